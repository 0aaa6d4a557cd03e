/- What functions of the program compute, and that they do. -/
import Derived.Test.YtdihadbgbjhebaaProg
import Derived.Test.YtdihadbgbjhebaaVc28
namespace Go.Proofs.Ytdihadbgbjhebaa.Vc
open Go Go.RowKit
set_option linter.unusedVariables false
set_option maxRecDepth 100000
set_option maxHeartbeats 4000000
abbrev Y7 : Ty := .pair (.int .i64) (.pair (.int .i64) (.pair .bool (.int .u8)))
abbrev Y13 : Ty := .pair .str (.int .u64)
abbrev Y64 : Ty := .pair (.int .i64) (.pair (.sl (.pair .str (.int .i64))) (.pair (.sl (.pair (.int .i64) (.pair (.sl (.pair (.int .i64) (.pair .str (.pair (.int .i64) (.pair (.int .i64) (.pair (.int .i64) (.pair .bool (.sl (.int .i64))))))))) (.pair (.sl (.pair (.int .i64) (.pair .str (.pair (.int .i64) (.pair (.int .i64) (.pair (.int .i64) (.pair .bool (.sl (.int .i64))))))))) (.pair (.int .i64) (.int .i64)))))) (.pair (.int .i64) (.pair (.int .i64) (.pair (.int .i64) (.pair (.int .i64) (.pair (.int .i64) (.int .i64))))))))
abbrev Y75 : Ty := .pair (.int .i64) (.int .i64)
abbrev Y89 : Ty := .pair (.int .i64) (.pair .str (.pair (.int .i64) (.pair (.int .i64) (.pair (.int .i64) (.pair .bool (.sl (.int .i64)))))))
abbrev Y107 : Ty := .pair .str (.int .i64)
abbrev Y120 : Ty := .pair (.sl (.int .u8)) Y75
abbrev Y138 : Ty := .pair (.sl (.int .u8)) (.pair (.int .i64) .bool)
abbrev Y146 : Ty := .pair (.int .i64) (.pair (.sl Y89) (.pair (.sl Y89) Y75))
def TL : List (Nat × TI) := [(2, { ty := (.int .i64) }),
  (3, { ty := (.int .i64) }),
  (4, { ty := .bool }),
  (5, { ty := (.int .u8) }),
  (6, { ty := (.int .u8) }),
  (7, { ty := Y7, offs := [0, 1, 2, 3], szs := [1, 1, 1, 1] }),
  (8, { ty := Y7, offs := [0, 1, 2, 3], szs := [1, 1, 1, 1] }),
  (9, { ty := .str }),
  (10, { ty := .str }),
  (11, { ty := .str }),
  (12, { ty := (.int .u64) }),
  (13, { ty := Y13, offs := [0, 1], szs := [1, 1] }),
  (14, { ty := Y13, offs := [0, 1], szs := [1, 1] }),
  (21, { ty := (.int .i32) }),
  (24, { ty := (.sl Y75), elem := 78 }),
  (26, { ty := (.sl (.int .i64)), elem := 3 }),
  (28, { ty := (.sl Y75), elem := 76 }),
  (35, { ty := (.sl .str), elem := 9 }),
  (40, { ty := (.sl (.int .u8)), elem := 5 }),
  (42, { ty := (.sl Y89), elem := 90 }),
  (54, { ty := (.sl Y89), elem := 102 }),
  (60, { ty := (.sl Y107), elem := 108 }),
  (62, { ty := (.sl Y107), elem := 111 }),
  (63, { ty := (.sl Y146), elem := 147 }),
  (64, { ty := Y64, offs := [0, 1, 2, 3, 4, 5, 6, 7, 8], szs := [1, 1, 1, 1, 1, 1, 1, 1, 1] }),
  (65, { ty := Y64, offs := [0, 1, 2, 3, 4, 5, 6, 7, 8], szs := [1, 1, 1, 1, 1, 1, 1, 1, 1] }),
  (75, { ty := Y75, offs := [0, 1], szs := [1, 1] }),
  (76, { ty := Y75, offs := [0, 1], szs := [1, 1] }),
  (78, { ty := Y75, offs := [0, 1], szs := [1, 1] }),
  (89, { ty := Y89, offs := [0, 1, 2, 3, 4, 5, 6], szs := [1, 1, 1, 1, 1, 1, 1] }),
  (90, { ty := Y89, offs := [0, 1, 2, 3, 4, 5, 6], szs := [1, 1, 1, 1, 1, 1, 1] }),
  (102, { ty := Y89, offs := [0, 1, 2, 3, 4, 5, 6], szs := [1, 1, 1, 1, 1, 1, 1] }),
  (107, { ty := Y107, offs := [0, 1], szs := [1, 1] }),
  (108, { ty := Y107, offs := [0, 1], szs := [1, 1] }),
  (111, { ty := Y107, offs := [0, 1], szs := [1, 1] }),
  (116, { ty := (.sl Y75), elem := 118 }),
  (117, { ty := Y75, offs := [0, 1], szs := [1, 1] }),
  (118, { ty := Y75, offs := [0, 1], szs := [1, 1] }),
  (120, { ty := Y120, offs := [0, 1, 2], szs := [1, 1, 1] }),
  (121, { ty := Y120, offs := [0, 1, 2], szs := [1, 1, 1] }),
  (137, { ty := (.int .u64) }),
  (138, { ty := Y138, offs := [0, 1, 2], szs := [1, 1, 1] }),
  (139, { ty := Y138, offs := [0, 1, 2], szs := [1, 1, 1] }),
  (146, { ty := Y146, offs := [0, 1, 2, 3, 4], szs := [1, 1, 1, 1, 1] }),
  (147, { ty := Y146, offs := [0, 1, 2, 3, 4], szs := [1, 1, 1, 1, 1] }),
  (153, { ty := (.sl (.sl (.int .u8))), elem := 40 }),
  (156, { ty := (.sl (.sl Y89)), elem := 42 }),
  (166, { ty := (.int .u32) }),
  (167, { ty := (.int .u8) }),
  (168, { ty := (.int .u8) }),
  (171, { ty := (.int .i32) }),
  (172, { ty := (.int .i32) })]
abbrev T : Tab := lookT TL
theorem T_ok : TabOk Go.Proofs.Try.prog T := tabOk_of TL (by kernel_rfl)
theorem T_rec : RecOk Go.Proofs.Try.prog T := recOk_of TL (by kernel_rfl)
/- loop.example/g00844/spec.l01In -/
def F53 (N : Nat) (a0 : Int) (a1 : Int) (a2 : Int) : Option (Bool) :=
  cond (decide (a1 ≤ a0)) (some (decide (a0 ≤ a2))) (some false)
theorem ok53 (N : Nat) (a0 : Int) (a1 : Int) (a2 : Int) {r : Bool} (h : F53 N a0 a1 a2 = some r) : Con Go.Proofs.Try.prog 53 [I a0, I a1, I a2] [.lf (.v .bool r)] := by
  refine ⟨enters_of Go.Proofs.Try.func53 rfl (by decide), HC.intro [.lf (.v .bool)] T_ok Go.Proofs.Try.func53 rfl (Nat.le_of_ble_eq_true rfl) (Nat.le_of_ble_eq_true rfl) fun w0 E0 => ?_⟩
  unfold F53 at h
  show VW _ _ _ _ _ (retQ _ _ _ _) _
  refine VW.seq ?_
  refine VW.region ?_
  refine VO.seg T_ok .dp 1 [0, 1, 2] [] (s' := ⟨[(0, I a0), (1, I a1), (2, I a2)], []⟩) (φ := True ∧ True) (by kernel_rfl) ⟨trivial, trivial⟩ ?_
  refine VO.nil ?_
  show VW _ _ _ _ _ _ _
  refine VW.seq ?_
  refine VW.region ?_
  refine VO.seg T_ok .dp 4 [0, 2, 10] [] (s' := ⟨[(0, I a0), (2, I a2), (10, B (decide (a1 ≤ a0)))], []⟩) (φ := True ∧ True ∧ True ∧ True ∧ True) (by kernel_rfl) ⟨trivial, trivial, trivial, trivial, trivial⟩ ?_
  refine VO.splitB 10 (b := (decide (a1 ≤ a0))) (by kernel_rfl) (fun hb => ?_) (fun hb => ?_)
  · replace h := cond_t h hb; clear hb
    refine VO.seg T_ok .dp 5 [6] [] (s' := ⟨[(6, B (decide (a0 ≤ a2)))], []⟩) (φ := True ∧ True ∧ True ∧ True ∧ True ∧ True) (by kernel_rfl) ⟨trivial, trivial, trivial, trivial, trivial, trivial⟩ ?_
    refine VO.nil ?_
    show VW _ _ _ _ _ _ _
    refine VW.ret ?_
    replace h := Option.some.inj h
    subst h
    exact retR [] (by kernel_rfl) rfl
  · replace h := cond_f h hb; clear hb
    refine VO.seg T_ok .dp 5 [6] [] (s' := ⟨[(6, B false)], []⟩) (φ := True ∧ True ∧ True ∧ True ∧ True ∧ True) (by kernel_rfl) ⟨trivial, trivial, trivial, trivial, trivial, trivial⟩ ?_
    refine VO.nil ?_
    show VW _ _ _ _ _ _ _
    refine VW.ret ?_
    replace h := Option.some.inj h
    subst h
    exact retR [] (by kernel_rfl) rfl

/- loop.example/g00844/impl.in -/
def F54 (N : Nat) (a0 : Int) (a1 : Int) (a2 : Int) : Option (Bool) :=
  cond (decide (a0 ≥ a1)) (some (decide (a0 ≤ a2))) (some false)
theorem ok54 (N : Nat) (a0 : Int) (a1 : Int) (a2 : Int) {r : Bool} (h : F54 N a0 a1 a2 = some r) : Con Go.Proofs.Try.prog 54 [I a0, I a1, I a2] [.lf (.v .bool r)] := by
  refine ⟨enters_of Go.Proofs.Try.func54 rfl (by decide), HC.intro [.lf (.v .bool)] T_ok Go.Proofs.Try.func54 rfl (Nat.le_of_ble_eq_true rfl) (Nat.le_of_ble_eq_true rfl) fun w0 E0 => ?_⟩
  unfold F54 at h
  show VW _ _ _ _ _ (retQ _ _ _ _) _
  refine VW.seq ?_
  refine VW.region ?_
  refine VO.seg T_ok .dp 1 [0, 1, 2] [] (s' := ⟨[(0, I a0), (1, I a1), (2, I a2)], []⟩) (φ := True ∧ True) (by kernel_rfl) ⟨trivial, trivial⟩ ?_
  refine VO.nil ?_
  show VW _ _ _ _ _ _ _
  refine VW.seq ?_
  refine VW.region ?_
  refine VO.seg T_ok .dp 4 [0, 2, 10] [] (s' := ⟨[(0, I a0), (2, I a2), (10, B (decide (a0 ≥ a1)))], []⟩) (φ := True ∧ True ∧ True ∧ True ∧ True) (by kernel_rfl) ⟨trivial, trivial, trivial, trivial, trivial⟩ ?_
  refine VO.splitB 10 (b := (decide (a0 ≥ a1))) (by kernel_rfl) (fun hb => ?_) (fun hb => ?_)
  · replace h := cond_t h hb; clear hb
    refine VO.seg T_ok .dp 5 [6] [] (s' := ⟨[(6, B (decide (a0 ≤ a2)))], []⟩) (φ := True ∧ True ∧ True ∧ True ∧ True ∧ True) (by kernel_rfl) ⟨trivial, trivial, trivial, trivial, trivial, trivial⟩ ?_
    refine VO.nil ?_
    show VW _ _ _ _ _ _ _
    refine VW.ret ?_
    replace h := Option.some.inj h
    subst h
    exact retR [] (by kernel_rfl) rfl
  · replace h := cond_f h hb; clear hb
    refine VO.seg T_ok .dp 5 [6] [] (s' := ⟨[(6, B false)], []⟩) (φ := True ∧ True ∧ True ∧ True ∧ True ∧ True) (by kernel_rfl) ⟨trivial, trivial, trivial, trivial, trivial, trivial⟩ ?_
    refine VO.nil ?_
    show VW _ _ _ _ _ _ _
    refine VW.ret ?_
    replace h := Option.some.inj h
    subst h
    exact retR [] (by kernel_rfl) rfl

/- loop.example/g00844/laws.szStepS -/
def F11 (N : Nat) (a0 : (List (Int × Int))) (a1 : Int) : Option (Int) :=
  cond (decide ((IntKind.i64.wrap (a1 - (a0.length : Int))) < (0 : Int))) (some (-1 : Int)) (some (IntKind.i64.wrap (a1 - (a0.length : Int))))
theorem ok11 (N : Nat) (a0 : (List (Int × Int))) (a1 : Int) {r : Int} (h : F11 N a0 a1 = some r) : Con Go.Proofs.Try.prog 11 [.lf (.v (.sl Y75) a0), I a1] [.lf (.v (.int .i64) r)] := by
  refine ⟨enters_of Go.Proofs.Try.func11 rfl (by decide), HC.intro [.lf (.v (.int .i64))] T_ok Go.Proofs.Try.func11 rfl (Nat.le_of_ble_eq_true rfl) (Nat.le_of_ble_eq_true rfl) fun w0 E0 => ?_⟩
  unfold F11 at h
  show VW _ _ _ _ _ (retQ _ _ _ _) _
  refine VW.seq ?_
  refine VW.region ?_
  refine VO.seg T_ok .dp 1 [0, 1] [] (s' := ⟨[(0, .lf (.v (.sl Y75) a0)), (1, I a1)], []⟩) (φ := True ∧ True) (by kernel_rfl) ⟨trivial, trivial⟩ ?_
  refine VO.nil ?_
  show VW _ _ _ _ _ _ _
  refine VW.seq ?_
  refine VW.region ?_
  refine VO.seg T_ok .dp 5 [1] [] (s' := ⟨[(1, I (IntKind.i64.wrap (a1 - (a0.length : Int))))], []⟩) (φ := True ∧ True ∧ True ∧ True ∧ True ∧ True) (by kernel_rfl) ⟨trivial, trivial, trivial, trivial, trivial, trivial⟩ ?_
  refine VO.nil ?_
  show VW _ _ _ _ _ _ _
  refine VW.seq ?_
  refine VW.seq ?_
  refine VW.region ?_
  refine VO.seg T_ok .dp 2 [1, 10] [] (s' := ⟨[(1, I (IntKind.i64.wrap (a1 - (a0.length : Int)))), (10, B (decide ((IntKind.i64.wrap (a1 - (a0.length : Int))) < (0 : Int))))], []⟩) (φ := True ∧ True ∧ True) (by kernel_rfl) ⟨trivial, trivial, trivial⟩ ?_
  refine VO.nil ?_
  show VW _ _ _ _ _ _ _
  refine VW.cond (b := (decide ((IntKind.i64.wrap (a1 - (a0.length : Int))) < (0 : Int)))) (by kernel_rfl) (fun hb => ?_) (fun hb => ?_)
  · replace h := cond_t h hb; clear hb
    refine VW.seq ?_
    refine VW.region ?_
    refine VO.seg T_ok .dp 1 [4] [] (s' := ⟨[(4, I (-1 : Int))], []⟩) (φ := True ∧ True) (by kernel_rfl) ⟨trivial, trivial⟩ ?_
    refine VO.nil ?_
    show VW _ _ _ _ _ _ _
    refine VW.ret ?_
    replace h := Option.some.inj h
    subst h
    exact retR [] (by kernel_rfl) rfl
  · replace h := cond_f h hb; clear hb
    refine VW.skip ?_
    show VW _ _ _ _ _ _ _
    refine VW.seq ?_
    refine VW.region ?_
    refine VO.seg T_ok .dp 2 [4] [] (s' := ⟨[(4, I (IntKind.i64.wrap (a1 - (a0.length : Int))))], []⟩) (φ := True ∧ True ∧ True) (by kernel_rfl) ⟨trivial, trivial, trivial⟩ ?_
    refine VO.nil ?_
    show VW _ _ _ _ _ _ _
    refine VW.ret ?_
    replace h := Option.some.inj h
    subst h
    exact retR [] (by kernel_rfl) rfl

/- loop.example/g00844/spec.RulesIn -/
def F12_j0 (N : Nat) (x59 : (List Int)) : Option ((List Int)) :=
  some x59
def F12_j1 (N : Nat) (nx100 : (List Int) → Int → Option ((List Int))) (x81 : Int) (x109 : (List Int)) : Option ((List Int)) :=
  nx100 x109 (IntKind.i64.wrap (x81 + (1 : Int)))
def F12_l0_b (N : Nat) (a0 : (List (Int × Int))) (nx100 : (List Int) → Int → Option ((List Int))) (x80 : (List Int)) (x81 : Int) : Option ((List Int)) :=
  cond (decide (x81 < (a0.length : Int))) (gd (InR x81 a0.length) (andO (F53 N ((a0.getD x81.toNat (Ty.dflt Y75)).1) (0 : Int) (11 : Int)) fun y112 => cond y112 (gd (InR x81 a0.length) (gd (InR x81 a0.length) (gd (InR ((a0.getD x81.toNat (Ty.dflt Y75)).1) x80.length) (gd (((a0.getD x81.toNat (Ty.dflt Y75)).1).toNat < x80.length) (gd (InR ((a0.getD x81.toNat (Ty.dflt Y75)).1) x80.length) (gd (((a0.getD x81.toNat (Ty.dflt Y75)).1).toNat < x80.length) (F12_j1 N nx100 x81 (x80.set (((a0.getD x81.toNat (Ty.dflt Y75)).1).toNat) (IntKind.i64.wrap ((x80.getD (((a0.getD x81.toNat (Ty.dflt Y75)).1).toNat) (Ty.dflt (.int .i64))) + (1 : Int))))))))))) (F12_j1 N nx100 x81 x80))) (F12_j0 N x80)
def F12_l0 (N : Nat) (a0 : (List (Int × Int))) : Nat → (List Int) → Int → Option ((List Int)) := loopF (F12_l0_b N a0) (fun _ _ => none)
theorem F12_l0_s (N : Nat) (a0 : (List (Int × Int))) {k : Nat} (hk : 0 < k) (x80 : (List Int)) (x81 : Int) : F12_l0 N a0 k x80 x81 = F12_l0_b N a0 (F12_l0 N a0 (k - 1)) x80 x81 := by
  cases k with
  | zero => exact absurd hk (Nat.lt_irrefl 0)
  | succ m => rfl
def F12 (N : Nat) (a0 : (List (Int × Int))) : Option ((List Int)) :=
  F12_l0 N a0 N (List.replicate (12 : Int).toNat (Ty.dflt (.int .i64))) (0 : Int)
theorem ok12 (N : Nat) (a0 : (List (Int × Int))) {r : (List Int)} (h : F12 N a0 = some r) : Con Go.Proofs.Try.prog 12 [.lf (.v (.sl Y75) a0)] [.lf (.own (.int .i64) r .dp)] := by
  refine ⟨enters_of Go.Proofs.Try.func12 rfl (by decide), HC.intro [.lf (.own (.int .i64) .dp)] T_ok Go.Proofs.Try.func12 rfl (Nat.le_of_ble_eq_true rfl) (Nat.le_of_ble_eq_true rfl) fun w0 E0 => ?_⟩
  unfold F12 at h
  show VW _ _ _ _ _ (retQ _ _ _ _) _
  refine VW.seq ?_
  refine VW.region ?_
  refine VO.seg T_ok .dp 1 [0] [] (s' := ⟨[(0, .lf (.v (.sl Y75) a0))], []⟩) (φ := True ∧ True) (by kernel_rfl) ⟨trivial, trivial⟩ ?_
  refine VO.nil ?_
  show VW _ _ _ _ _ _ _
  refine VW.seq ?_
  refine VW.region ?_
  refine VO.seg T_ok .dp 2 [0, 3] [0] (s' := ⟨[(0, .lf (.v (.sl Y75) a0)), (3, .lf (.hd 0 0 none))], [ar 0 (.int .i64) (List.replicate (12 : Int).toNat (Ty.dflt (.int .i64))) .dp]⟩) (φ := (0 ≤ (12 : Int) ∧ (12 : Int) ≤ (lim (.int .i64) : Int) ∧ (12 : Int) = (12 : Int)) ∧ True ∧ True) (by kernel_rfl) ⟨(by decide), trivial, trivial⟩ ?_
  refine VO.nil ?_
  show VW _ _ _ _ _ _ _
  refine VW.join (fun s => ∃ (x59 : (List Int)), s = ⟨[(3, .lf (.hd 0 0 none))], [ar 0 (.int .i64) x59 .dp]⟩ ∧ F12_j0 N x59 = some r) ?_ ?_
  · refine VW.seq ?_
    refine VW.region ?_
    refine VO.seg T_ok .dp 1 [0, 3, 4] [0] (s' := ⟨[(0, .lf (.v (.sl Y75) a0)), (3, .lf (.hd 0 0 none)), (4, I (0 : Int))], [ar 0 (.int .i64) (List.replicate (12 : Int).toNat (Ty.dflt (.int .i64))) .dp]⟩) (φ := True ∧ True) (by kernel_rfl) ⟨trivial, trivial⟩ ?_
    refine VO.nil ?_
    show VW _ _ _ _ _ _ _
    refine VW.block ?_
    refine VW.loopL (fun k s => ∃ (x80 : (List Int)) (x81 : Int), s = ⟨[(0, .lf (.v (.sl Y75) a0)), (3, .lf (.hd 0 0 none)), (4, I x81)], [ar 0 (.int .i64) x80 .dp]⟩ ∧ F12_l0 N a0 k x80 x81 = some r) N [.ren [0, 3, 4] [0]] (by kernel_rfl) ⟨(List.replicate (12 : Int).toNat (Ty.dflt (.int .i64))), (0 : Int), rfl, h⟩ ?_
    rintro k100 s ⟨x80, x81, rfl, h⟩
    cases k100 with
    | zero => exact nomatch (show (none : Option ((List Int))) = some r from h)
    | succ k100 =>
      replace h : F12_l0_b N a0 (F12_l0 N a0 k100) x80 x81 = some r := h
      unfold F12_l0_b at h
      refine VW.seq ?_
      refine VW.seq ?_
      refine VW.region ?_
      refine VO.seg T_ok .dp 4 [0, 3, 4, 9] [0] (s' := ⟨[(0, .lf (.v (.sl Y75) a0)), (3, .lf (.hd 0 0 none)), (4, I x81), (9, B (decide (x81 < (a0.length : Int))))], [ar 0 (.int .i64) x80 .dp]⟩) (φ := True ∧ True ∧ True ∧ True ∧ True) (by kernel_rfl) ⟨trivial, trivial, trivial, trivial, trivial⟩ ?_
      refine VO.nil ?_
      show VW _ _ _ _ _ _ _
      refine VW.cond (b := (decide (x81 < (a0.length : Int)))) (by kernel_rfl) (fun hb => ?_) (fun hb => ?_)
      · replace h := cond_t h hb; clear hb
        refine VW.skip ?_
        show VW _ _ _ _ _ _ _
        refine VW.join (fun s => ∃ (x109 : (List Int)), s = ⟨[(0, .lf (.v (.sl Y75) a0)), (3, .lf (.hd 0 0 none)), (4, I x81)], [ar 0 (.int .i64) x109 .dp]⟩ ∧ F12_j1 N (F12_l0 N a0 k100) x81 x109 = some r) ?_ ?_
        · refine VW.block ?_
          refine VW.seq ?_
          refine VW.region ?_
          obtain ⟨g111, h⟩ := gd_some h
          refine VO.seg T_ok .dp 5 [0, 3, 4, 16] [0] (s' := ⟨[(0, .lf (.v (.sl Y75) a0)), (3, .lf (.hd 0 0 none)), (4, I x81), (16, I ((a0.getD x81.toNat (Ty.dflt Y75)).1))], [ar 0 (.int .i64) x80 .dp]⟩) (φ := True ∧ True ∧ (InR x81 a0.length) ∧ True ∧ True ∧ True) (by kernel_rfl) ⟨trivial, trivial, g111, trivial, trivial, trivial⟩ ?_
          obtain ⟨y112, hy, h⟩ := andO_some h
          refine VO.call false [.t (.int .i64), .t (.int .i64), .t (.int .i64)] [] T_ok (d := some 17) (by kernel_rfl) (ok53 N _ _ _ hy) rfl ?_
          refine VO.seg T_ok .dp 0 [0, 3, 4, 17] [0] (s' := ⟨[(0, .lf (.v (.sl Y75) a0)), (3, .lf (.hd 0 0 none)), (4, I x81), (17, B y112)], [ar 0 (.int .i64) x80 .dp]⟩) (φ := True) (by kernel_rfl) trivial ?_
          refine VO.nil ?_
          show VW _ _ _ _ _ _ _
          refine VW.cond (b := y112) (by kernel_rfl) (fun hb => ?_) (fun hb => ?_)
          · replace h := cond_t h hb; clear hb
            obtain ⟨g113, h⟩ := gd_some h
            obtain ⟨g114, h⟩ := gd_some h
            obtain ⟨g115, h⟩ := gd_some h
            obtain ⟨g116, h⟩ := gd_some h
            obtain ⟨g117, h⟩ := gd_some h
            obtain ⟨g118, h⟩ := gd_some h
            refine VW.drawn (by kernel_rfl) [some (18, .lf (.hd 0 0 none)), some (19, .lf (.v (.sl Y75) a0)), some (20, I x81), some (21, .lf (.fp Y75 (a0.getD x81.toNat (Ty.dflt Y75)) 0)), some (22, .lf (.fp Y75 (a0.getD x81.toNat (Ty.dflt Y75)) 0)), some (23, I ((a0.getD x81.toNat (Ty.dflt Y75)).1)), some (24, .lf (.hd 0 0 none)), some (25, .lf (.v (.sl Y75) a0)), some (26, I x81), some (27, .lf (.fp Y75 (a0.getD x81.toNat (Ty.dflt Y75)) 0)), some (28, .lf (.fp Y75 (a0.getD x81.toNat (Ty.dflt Y75)) 0)), some (29, I ((a0.getD x81.toNat (Ty.dflt Y75)).1)), some (30, .lf (.ptr 0 0 (((a0.getD x81.toNat (Ty.dflt Y75)).1).toNat) 0)), some (31, I (x80.getD (((a0.getD x81.toNat (Ty.dflt Y75)).1).toNat) (Ty.dflt (.int .i64)))), some (32, I (IntKind.i64.wrap ((x80.getD (((a0.getD x81.toNat (Ty.dflt Y75)).1).toNat) (Ty.dflt (.int .i64))) + (1 : Int)))), some (33, .lf (.ptr 0 0 (((a0.getD x81.toNat (Ty.dflt Y75)).1).toNat) 0)), none] [16] [[ar 0 (.int .i64) x80 .dp], [ar 0 (.int .i64) (x80.set (((a0.getD x81.toNat (Ty.dflt Y75)).1).toNat) (IntKind.i64.wrap ((x80.getD (((a0.getD x81.toNat (Ty.dflt Y75)).1).toNat) (Ty.dflt (.int .i64))) + (1 : Int)))) .dp]] [(0, 0), (1, 0), (2, 0), (3, 0), (4, 0), (5, 0), (6, 0), (7, 0), (8, 0), (9, 0), (10, 0), (11, 0), (12, 0), (13, 0), (14, 0), (15, 0), (16, 0)] [0, 3, 4] [0] (s' := ⟨[(0, .lf (.v (.sl Y75) a0)), (3, .lf (.hd 0 0 none)), (4, I x81)], [ar 0 (.int .i64) (x80.set (((a0.getD x81.toNat (Ty.dflt Y75)).1).toNat) (IntKind.i64.wrap ((x80.getD (((a0.getD x81.toNat (Ty.dflt Y75)).1).toNat) (Ty.dflt (.int .i64))) + (1 : Int)))) .dp]⟩) (by kernel_rfl) (by kernel_rfl) ⟨⟨_, rfl, Stp.ev T_ok (m := .dp) (φ := True) (by kernel_rfl) trivial⟩,
    ⟨_, rfl, Stp.ev T_ok (m := .dp) (φ := True) (by kernel_rfl) trivial⟩,
    ⟨_, rfl, Stp.ev T_ok (m := .dp) (φ := True) (by kernel_rfl) trivial⟩,
    ⟨_, rfl, Stp.ev T_ok (m := .dp) (φ := InR x81 a0.length) (by kernel_rfl) g113⟩,
    ⟨_, rfl, Stp.ev T_ok (m := .dp) (φ := True) (by kernel_rfl) trivial⟩,
    ⟨_, rfl, Stp.ev T_ok (m := .dp) (φ := True) (by kernel_rfl) trivial⟩,
    ⟨_, rfl, Stp.ev T_ok (m := .dp) (φ := True) (by kernel_rfl) trivial⟩,
    ⟨_, rfl, Stp.ev T_ok (m := .dp) (φ := True) (by kernel_rfl) trivial⟩,
    ⟨_, rfl, Stp.ev T_ok (m := .dp) (φ := True) (by kernel_rfl) trivial⟩,
    ⟨_, rfl, Stp.ev T_ok (m := .dp) (φ := InR x81 a0.length) (by kernel_rfl) g114⟩,
    ⟨_, rfl, Stp.ev T_ok (m := .dp) (φ := True) (by kernel_rfl) trivial⟩,
    ⟨_, rfl, Stp.ev T_ok (m := .dp) (φ := True) (by kernel_rfl) trivial⟩,
    ⟨_, rfl, Stp.ev T_ok (m := .dp) (φ := InR ((a0.getD x81.toNat (Ty.dflt Y75)).1) x80.length) (by kernel_rfl) g115⟩,
    ⟨_, rfl, Stp.ev T_ok (m := .dp) (φ := ((a0.getD x81.toNat (Ty.dflt Y75)).1).toNat < x80.length) (by kernel_rfl) g116⟩,
    ⟨_, rfl, Stp.ev T_ok (m := .dp) (φ := True) (by kernel_rfl) trivial⟩,
    ⟨_, rfl, Stp.ev T_ok (m := .dp) (φ := InR ((a0.getD x81.toNat (Ty.dflt Y75)).1) x80.length) (by kernel_rfl) g117⟩,
    ⟨_, rfl, Stp.ev T_ok (m := .dp) (φ := ((a0.getD x81.toNat (Ty.dflt Y75)).1).toNat < x80.length) (by kernel_rfl) g118⟩, trivial⟩ (by kernel_rfl) ?_
            exact arrive [.ren [0, 3, 4] [0]] (by kernel_rfl) ⟨(x80.set (((a0.getD x81.toNat (Ty.dflt Y75)).1).toNat) (IntKind.i64.wrap ((x80.getD (((a0.getD x81.toNat (Ty.dflt Y75)).1).toNat) (Ty.dflt (.int .i64))) + (1 : Int)))), rfl, h⟩
          · replace h := cond_f h hb; clear hb
            refine VW.skip ?_
            exact arrive [.ren [0, 3, 4] [0]] (by kernel_rfl) ⟨x80, rfl, h⟩
        · rintro s ⟨x109, rfl, h⟩
          unfold F12_j1 at h
          refine VW.region ?_
          refine VO.seg T_ok .dp 3 [0, 3, 4] [0] (s' := ⟨[(0, .lf (.v (.sl Y75) a0)), (3, .lf (.hd 0 0 none)), (4, I (IntKind.i64.wrap (x81 + (1 : Int))))], [ar 0 (.int .i64) x109 .dp]⟩) (φ := True ∧ True ∧ True ∧ True) (by kernel_rfl) ⟨trivial, trivial, trivial, trivial⟩ ?_
          refine VO.nil ?_
          exact around [.ren [0, 3, 4] [0]] (by kernel_rfl) ⟨x109, (IntKind.i64.wrap (x81 + (1 : Int))), rfl, h⟩
      · replace h := cond_f h hb; clear hb
        refine VW.exit ?_
        exact arrive [.ren [3] [0]] (by kernel_rfl) ⟨x80, rfl, h⟩
  · rintro s ⟨x59, rfl, h⟩
    unfold F12_j0 at h
    refine VW.seq ?_
    refine VW.region ?_
    refine VO.seg T_ok .dp 2 [2] [0] (s' := ⟨[(2, .lf (.hd 0 0 none))], [ar 0 (.int .i64) x59 .dp]⟩) (φ := True ∧ True ∧ True) (by kernel_rfl) ⟨trivial, trivial, trivial⟩ ?_
    refine VO.nil ?_
    show VW _ _ _ _ _ _ _
    refine VW.ret ?_
    replace h := Option.some.inj h
    subst h
    exact retR [some 0] (by kernel_rfl) rfl

/- loop.example/g00844/laws.toStep -/
def F55 (N : Nat) (a0 : (Int × Int)) : Option ((Int × Int)) :=
  some a0
theorem ok55 (N : Nat) (a0 : (Int × Int)) {r : (Int × Int)} (h : F55 N a0 = some r) : Con Go.Proofs.Try.prog 55 [.agg [.v (.int .i64) a0.1, .v (.int .i64) a0.2]] [.agg [.v (.int .i64) r.1, .v (.int .i64) r.2]] := by
  refine ⟨enters_of Go.Proofs.Try.func55 rfl (by decide), HC.intro [.agg [.v (.int .i64), .v (.int .i64)]] T_ok Go.Proofs.Try.func55 rfl (Nat.le_of_ble_eq_true rfl) (Nat.le_of_ble_eq_true rfl) fun w0 E0 => ?_⟩
  unfold F55 at h
  show VW _ _ _ _ _ (retQ _ _ _ _) _
  refine VW.seq ?_
  refine VW.region ?_
  refine VO.seg T_ok .dp 2 [1, 2] [0, 1] (s' := ⟨[(1, .lf (.ptr 0 0 0 0)), (2, .lf (.ptr 1 0 0 0))], [bx [.v (.int .i64) a0.1, .v (.int .i64) a0.2] 78, bx [.v (.int .i64) (0 : Int), .v (.int .i64) (0 : Int)] 76]⟩) (φ := True ∧ True ∧ True) (by kernel_rfl) ⟨trivial, trivial, trivial⟩ ?_
  refine VO.nil ?_
  show VW _ _ _ _ _ _ _
  refine VW.seq ?_
  refine VW.region ?_
  refine VO.seg T_ok .dp 1 [1, 2, 3] [0, 1, 2] (s' := ⟨[(1, .lf (.ptr 0 0 0 0)), (2, .lf (.ptr 1 0 0 0)), (3, .lf (.ptr 2 0 0 0))], [bx [.v (.int .i64) a0.1, .v (.int .i64) a0.2] 78, bx [.v (.int .i64) (0 : Int), .v (.int .i64) (0 : Int)] 76, bx [.v (.int .i64) (0 : Int), .v (.int .i64) (0 : Int)] 76]⟩) (φ := True ∧ True) (by kernel_rfl) ⟨trivial, trivial⟩ ?_
  refine VO.nil ?_
  show VW _ _ _ _ _ _ _
  refine VW.seq ?_
  refine VW.region ?_
  refine VO.seg T_ok .dp 4 [1, 2, 3] [0, 1, 2] (s' := ⟨[(1, .lf (.ptr 0 0 0 0)), (2, .lf (.ptr 1 0 0 0)), (3, .lf (.ptr 2 0 0 0))], [bx [.v (.int .i64) a0.1, .v (.int .i64) a0.2] 78, bx [.v (.int .i64) (0 : Int), .v (.int .i64) (0 : Int)] 76, bx [.v (.int .i64) a0.1, .v (.int .i64) (0 : Int)] 76]⟩) (φ := True ∧ True ∧ True ∧ True ∧ True) (by kernel_rfl) ⟨trivial, trivial, trivial, trivial, trivial⟩ ?_
  refine VO.nil ?_
  show VW _ _ _ _ _ _ _
  refine VW.seq ?_
  refine VW.region ?_
  refine VO.seg T_ok .dp 4 [2, 3] [1, 2] (s' := ⟨[(2, .lf (.ptr 0 0 0 0)), (3, .lf (.ptr 1 0 0 0))], [bx [.v (.int .i64) (0 : Int), .v (.int .i64) (0 : Int)] 76, bx [.v (.int .i64) a0.1, .v (.int .i64) a0.2] 76]⟩) (φ := True ∧ True ∧ True ∧ True ∧ True) (by kernel_rfl) ⟨trivial, trivial, trivial, trivial, trivial⟩ ?_
  refine VO.nil ?_
  show VW _ _ _ _ _ _ _
  refine VW.seq ?_
  refine VW.region ?_
  refine VO.seg T_ok .dp 2 [2] [0] (s' := ⟨[(2, .lf (.ptr 0 0 0 0))], [bx [.v (.int .i64) a0.1, .v (.int .i64) a0.2] 76]⟩) (φ := True ∧ True ∧ True) (by kernel_rfl) ⟨trivial, trivial, trivial⟩ ?_
  refine VO.nil ?_
  show VW _ _ _ _ _ _ _
  refine VW.ret ?_
  replace h := Option.some.inj h
  subst h
  exact retR [] (by kernel_rfl) rfl

/- loop.example/g00844/laws.toStepS -/
def F13_j0 (N : Nat) (x30 : (List (Int × Int))) : Option ((List (Int × Int))) :=
  some x30
def F13_l0_b (N : Nat) (a0 : (List (Int × Int))) (nx51 : (List (Int × Int)) → Int → Option ((List (Int × Int)))) (x41 : (List (Int × Int))) (x42 : Int) : Option ((List (Int × Int))) :=
  cond (decide (x42 < (a0.length : Int))) (gd (InR x42 a0.length) (andO (F55 N (a0.getD x42.toNat (Ty.dflt Y75))) fun y57 => gd (InR x42 x41.length) (gd (x42.toNat < x41.length) (nx51 (x41.set x42.toNat y57) (IntKind.i64.wrap (x42 + (1 : Int))))))) (F13_j0 N x41)
def F13_l0 (N : Nat) (a0 : (List (Int × Int))) : Nat → (List (Int × Int)) → Int → Option ((List (Int × Int))) := loopF (F13_l0_b N a0) (fun _ _ => none)
theorem F13_l0_s (N : Nat) (a0 : (List (Int × Int))) {k : Nat} (hk : 0 < k) (x41 : (List (Int × Int))) (x42 : Int) : F13_l0 N a0 k x41 x42 = F13_l0_b N a0 (F13_l0 N a0 (k - 1)) x41 x42 := by
  cases k with
  | zero => exact absurd hk (Nat.lt_irrefl 0)
  | succ m => rfl
def F13 (N : Nat) (a0 : (List (Int × Int))) : Option ((List (Int × Int))) :=
  gd (0 ≤ (a0.length : Int) ∧ (a0.length : Int) ≤ (lim Y75 : Int) ∧ (a0.length : Int) = (a0.length : Int)) (F13_l0 N a0 N (List.replicate (a0.length : Int).toNat (Ty.dflt Y75)) (0 : Int))
theorem ok13 (N : Nat) (a0 : (List (Int × Int))) {r : (List (Int × Int))} (h : F13 N a0 = some r) : Con Go.Proofs.Try.prog 13 [.lf (.v (.sl Y75) a0)] [.lf (.own Y75 r .dp)] := by
  refine ⟨enters_of Go.Proofs.Try.func13 rfl (by decide), HC.intro [.lf (.own Y75 .dp)] T_ok Go.Proofs.Try.func13 rfl (Nat.le_of_ble_eq_true rfl) (Nat.le_of_ble_eq_true rfl) fun w0 E0 => ?_⟩
  unfold F13 at h
  show VW _ _ _ _ _ (retQ _ _ _ _) _
  refine VW.seq ?_
  refine VW.region ?_
  refine VO.seg T_ok .dp 1 [0] [] (s' := ⟨[(0, .lf (.v (.sl Y75) a0))], []⟩) (φ := True ∧ True) (by kernel_rfl) ⟨trivial, trivial⟩ ?_
  refine VO.nil ?_
  show VW _ _ _ _ _ _ _
  refine VW.seq ?_
  refine VW.region ?_
  obtain ⟨g1, h⟩ := gd_some h
  refine VO.seg T_ok .dp 4 [0, 3] [0] (s' := ⟨[(0, .lf (.v (.sl Y75) a0)), (3, .lf (.hd 0 0 none))], [ar 0 Y75 (List.replicate (a0.length : Int).toNat (Ty.dflt Y75)) .dp]⟩) (φ := True ∧ True ∧ (0 ≤ (a0.length : Int) ∧ (a0.length : Int) ≤ (lim Y75 : Int) ∧ (a0.length : Int) = (a0.length : Int)) ∧ True ∧ True) (by kernel_rfl) ⟨trivial, trivial, g1, trivial, trivial⟩ ?_
  refine VO.nil ?_
  show VW _ _ _ _ _ _ _
  refine VW.join (fun s => ∃ (x30 : (List (Int × Int))), s = ⟨[(3, .lf (.hd 0 0 none))], [ar 0 Y75 x30 .dp]⟩ ∧ F13_j0 N x30 = some r) ?_ ?_
  · refine VW.seq ?_
    refine VW.region ?_
    refine VO.seg T_ok .dp 1 [0, 3, 4] [0] (s' := ⟨[(0, .lf (.v (.sl Y75) a0)), (3, .lf (.hd 0 0 none)), (4, I (0 : Int))], [ar 0 Y75 (List.replicate (a0.length : Int).toNat (Ty.dflt Y75)) .dp]⟩) (φ := True ∧ True) (by kernel_rfl) ⟨trivial, trivial⟩ ?_
    refine VO.nil ?_
    show VW _ _ _ _ _ _ _
    refine VW.block ?_
    refine VW.loopL (fun k s => ∃ (x41 : (List (Int × Int))) (x42 : Int), s = ⟨[(0, .lf (.v (.sl Y75) a0)), (3, .lf (.hd 0 0 none)), (4, I x42)], [ar 0 Y75 x41 .dp]⟩ ∧ F13_l0 N a0 k x41 x42 = some r) N [.ren [0, 3, 4] [0]] (by kernel_rfl) ⟨(List.replicate (a0.length : Int).toNat (Ty.dflt Y75)), (0 : Int), rfl, h⟩ ?_
    rintro k51 s ⟨x41, x42, rfl, h⟩
    cases k51 with
    | zero => exact nomatch (show (none : Option ((List (Int × Int)))) = some r from h)
    | succ k51 =>
      replace h : F13_l0_b N a0 (F13_l0 N a0 k51) x41 x42 = some r := h
      unfold F13_l0_b at h
      refine VW.seq ?_
      refine VW.seq ?_
      refine VW.region ?_
      refine VO.seg T_ok .dp 4 [0, 3, 4, 11] [0] (s' := ⟨[(0, .lf (.v (.sl Y75) a0)), (3, .lf (.hd 0 0 none)), (4, I x42), (11, B (decide (x42 < (a0.length : Int))))], [ar 0 Y75 x41 .dp]⟩) (φ := True ∧ True ∧ True ∧ True ∧ True) (by kernel_rfl) ⟨trivial, trivial, trivial, trivial, trivial⟩ ?_
      refine VO.nil ?_
      show VW _ _ _ _ _ _ _
      refine VW.cond (b := (decide (x42 < (a0.length : Int)))) (by kernel_rfl) (fun hb => ?_) (fun hb => ?_)
      · replace h := cond_t h hb; clear hb
        refine VW.skip ?_
        show VW _ _ _ _ _ _ _
        refine VW.seq ?_
        refine VW.block ?_
        refine VW.region ?_
        obtain ⟨g56, h⟩ := gd_some h
        refine VO.seg T_ok .dp 6 [0, 3, 4, 14, 15, 19] [0] (s' := ⟨[(0, .lf (.v (.sl Y75) a0)), (3, .lf (.hd 0 0 none)), (4, I x42), (14, .lf (.hd 0 0 none)), (15, I x42), (19, .agg [.v (.int .i64) ((a0.getD x42.toNat (Ty.dflt Y75)).1), .v (.int .i64) ((a0.getD x42.toNat (Ty.dflt Y75)).2)])], [ar 0 Y75 x41 .dp]⟩) (φ := True ∧ True ∧ True ∧ True ∧ (InR x42 a0.length) ∧ True ∧ True) (by kernel_rfl) ⟨trivial, trivial, trivial, trivial, g56, trivial, trivial⟩ ?_
        obtain ⟨y57, hy, h⟩ := andO_some h
        refine VO.call false [.t Y75] [] T_ok (d := some 20) (by kernel_rfl) (ok55 N _ hy) rfl ?_
        obtain ⟨g58, h⟩ := gd_some h
        obtain ⟨g59, h⟩ := gd_some h
        refine VO.seg T_ok .dp 2 [0, 3, 4] [0] (s' := ⟨[(0, .lf (.v (.sl Y75) a0)), (3, .lf (.hd 0 0 none)), (4, I x42)], [ar 0 Y75 (x41.set x42.toNat y57) .dp]⟩) (φ := (InR x42 x41.length) ∧ (x42.toNat < x41.length) ∧ True) (by kernel_rfl) ⟨g58, g59, trivial⟩ ?_
        refine VO.nil ?_
        show VW _ _ _ _ _ _ _
        refine VW.region ?_
        refine VO.seg T_ok .dp 3 [0, 3, 4] [0] (s' := ⟨[(0, .lf (.v (.sl Y75) a0)), (3, .lf (.hd 0 0 none)), (4, I (IntKind.i64.wrap (x42 + (1 : Int))))], [ar 0 Y75 (x41.set x42.toNat y57) .dp]⟩) (φ := True ∧ True ∧ True ∧ True) (by kernel_rfl) ⟨trivial, trivial, trivial, trivial⟩ ?_
        refine VO.nil ?_
        exact around [.ren [0, 3, 4] [0]] (by kernel_rfl) ⟨(x41.set x42.toNat y57), (IntKind.i64.wrap (x42 + (1 : Int))), rfl, h⟩
      · replace h := cond_f h hb; clear hb
        refine VW.exit ?_
        exact arrive [.ren [3] [0]] (by kernel_rfl) ⟨x41, rfl, h⟩
  · rintro s ⟨x30, rfl, h⟩
    unfold F13_j0 at h
    refine VW.seq ?_
    refine VW.region ?_
    refine VO.seg T_ok .dp 2 [2] [0] (s' := ⟨[(2, .lf (.hd 0 0 none))], [ar 0 Y75 x30 .dp]⟩) (φ := True ∧ True ∧ True) (by kernel_rfl) ⟨trivial, trivial, trivial⟩ ?_
    refine VO.nil ?_
    show VW _ _ _ _ _ _ _
    refine VW.ret ?_
    replace h := Option.some.inj h
    subst h
    exact retR [some 0] (by kernel_rfl) rfl

/- loop.example/g00844/impl.RulesIn -/
def F14_j0 (N : Nat) (x49 : (List Int)) : Option ((List Int)) :=
  some x49
def F14_j1 (N : Nat) (nx84 : (List Int) → Int → Int → Option ((List Int))) (x68 : Int) (x69 : Int) (x91 : (List Int)) : Option ((List Int)) :=
  nx84 x91 x68 (IntKind.i64.wrap (x69 + (1 : Int)))
def F14_l0_b (N : Nat) (a0 : (List (Int × Int))) (nx84 : (List Int) → Int → Int → Option ((List Int))) (x67 : (List Int)) (x68 : Int) (x69 : Int) : Option ((List Int)) :=
  cond (decide (x69 < x68)) (gd (InR x69 a0.length) (andO (F54 N ((a0.getD x69.toNat (Ty.dflt Y75)).1) (0 : Int) (11 : Int)) fun y94 => cond y94 (gd (InR ((a0.getD x69.toNat (Ty.dflt Y75)).1) x67.length) (gd (((a0.getD x69.toNat (Ty.dflt Y75)).1).toNat < x67.length) (gd (InR ((a0.getD x69.toNat (Ty.dflt Y75)).1) x67.length) (gd (((a0.getD x69.toNat (Ty.dflt Y75)).1).toNat < x67.length) (F14_j1 N nx84 x68 x69 (x67.set (((a0.getD x69.toNat (Ty.dflt Y75)).1).toNat) (IntKind.i64.wrap ((x67.getD (((a0.getD x69.toNat (Ty.dflt Y75)).1).toNat) (Ty.dflt (.int .i64))) + (1 : Int))))))))) (F14_j1 N nx84 x68 x69 x67))) (F14_j0 N x67)
def F14_l0 (N : Nat) (a0 : (List (Int × Int))) : Nat → (List Int) → Int → Int → Option ((List Int)) := loopF (F14_l0_b N a0) (fun _ _ _ => none)
theorem F14_l0_s (N : Nat) (a0 : (List (Int × Int))) {k : Nat} (hk : 0 < k) (x67 : (List Int)) (x68 : Int) (x69 : Int) : F14_l0 N a0 k x67 x68 x69 = F14_l0_b N a0 (F14_l0 N a0 (k - 1)) x67 x68 x69 := by
  cases k with
  | zero => exact absurd hk (Nat.lt_irrefl 0)
  | succ m => rfl
def F14 (N : Nat) (a0 : (List (Int × Int))) : Option ((List Int)) :=
  F14_l0 N a0 N (List.replicate (12 : Int).toNat (Ty.dflt (.int .i64))) (a0.length : Int) (0 : Int)
theorem ok14 (N : Nat) (a0 : (List (Int × Int))) {r : (List Int)} (h : F14 N a0 = some r) : Con Go.Proofs.Try.prog 14 [.lf (.v (.sl Y75) a0)] [.lf (.own (.int .i64) r .dp)] := by
  refine ⟨enters_of Go.Proofs.Try.func14 rfl (by decide), HC.intro [.lf (.own (.int .i64) .dp)] T_ok Go.Proofs.Try.func14 rfl (Nat.le_of_ble_eq_true rfl) (Nat.le_of_ble_eq_true rfl) fun w0 E0 => ?_⟩
  unfold F14 at h
  show VW _ _ _ _ _ (retQ _ _ _ _) _
  refine VW.seq ?_
  refine VW.region ?_
  refine VO.seg T_ok .dp 1 [0] [] (s' := ⟨[(0, .lf (.v (.sl Y75) a0))], []⟩) (φ := True ∧ True) (by kernel_rfl) ⟨trivial, trivial⟩ ?_
  refine VO.nil ?_
  show VW _ _ _ _ _ _ _
  refine VW.seq ?_
  refine VW.region ?_
  refine VO.seg T_ok .dp 2 [0, 3] [0] (s' := ⟨[(0, .lf (.v (.sl Y75) a0)), (3, .lf (.hd 0 0 none))], [ar 0 (.int .i64) (List.replicate (12 : Int).toNat (Ty.dflt (.int .i64))) .dp]⟩) (φ := (0 ≤ (12 : Int) ∧ (12 : Int) ≤ (lim (.int .i64) : Int) ∧ (12 : Int) = (12 : Int)) ∧ True ∧ True) (by kernel_rfl) ⟨(by decide), trivial, trivial⟩ ?_
  refine VO.nil ?_
  show VW _ _ _ _ _ _ _
  refine VW.join (fun s => ∃ (x49 : (List Int)), s = ⟨[(3, .lf (.hd 0 0 none))], [ar 0 (.int .i64) x49 .dp]⟩ ∧ F14_j0 N x49 = some r) ?_ ?_
  · refine VW.seq ?_
    refine VW.region ?_
    refine VO.seg T_ok .dp 3 [3, 7, 8, 9] [0] (s' := ⟨[(3, .lf (.hd 0 0 none)), (7, .lf (.v (.sl Y75) a0)), (8, I (a0.length : Int)), (9, I (0 : Int))], [ar 0 (.int .i64) (List.replicate (12 : Int).toNat (Ty.dflt (.int .i64))) .dp]⟩) (φ := True ∧ True ∧ True ∧ True) (by kernel_rfl) ⟨trivial, trivial, trivial, trivial⟩ ?_
    refine VO.nil ?_
    show VW _ _ _ _ _ _ _
    refine VW.block ?_
    refine VW.loopL (fun k s => ∃ (x67 : (List Int)) (x68 : Int) (x69 : Int), s = ⟨[(3, .lf (.hd 0 0 none)), (7, .lf (.v (.sl Y75) a0)), (8, I x68), (9, I x69)], [ar 0 (.int .i64) x67 .dp]⟩ ∧ F14_l0 N a0 k x67 x68 x69 = some r) N [.ren [3, 7, 8, 9] [0]] (by kernel_rfl) ⟨(List.replicate (12 : Int).toNat (Ty.dflt (.int .i64))), (a0.length : Int), (0 : Int), rfl, h⟩ ?_
    rintro k84 s ⟨x67, x68, x69, rfl, h⟩
    cases k84 with
    | zero => exact nomatch (show (none : Option ((List Int))) = some r from h)
    | succ k84 =>
      replace h : F14_l0_b N a0 (F14_l0 N a0 k84) x67 x68 x69 = some r := h
      unfold F14_l0_b at h
      refine VW.seq ?_
      refine VW.region ?_
      refine VO.seg T_ok .dp 1 [3, 7, 8, 9, 10] [0] (s' := ⟨[(3, .lf (.hd 0 0 none)), (7, .lf (.v (.sl Y75) a0)), (8, I x68), (9, I x69), (10, B (decide (x69 < x68)))], [ar 0 (.int .i64) x67 .dp]⟩) (φ := True ∧ True) (by kernel_rfl) ⟨trivial, trivial⟩ ?_
      refine VO.nil ?_
      show VW _ _ _ _ _ _ _
      refine VW.seq ?_
      refine VW.cond (b := (decide (x69 < x68))) (by kernel_rfl) (fun hb => ?_) (fun hb => ?_)
      · replace h := cond_t h hb; clear hb
        refine VW.skip ?_
        show VW _ _ _ _ _ _ _
        refine VW.join (fun s => ∃ (x91 : (List Int)), s = ⟨[(3, .lf (.hd 0 0 none)), (7, .lf (.v (.sl Y75) a0)), (8, I x68), (9, I x69)], [ar 0 (.int .i64) x91 .dp]⟩ ∧ F14_j1 N (F14_l0 N a0 k84) x68 x69 x91 = some r) ?_ ?_
        · refine VW.block ?_
          refine VW.seq ?_
          refine VW.region ?_
          obtain ⟨g93, h⟩ := gd_some h
          refine VO.seg T_ok .dp 4 [3, 5, 7, 8, 9] [0, 1] (s' := ⟨[(3, .lf (.hd 0 0 none)), (5, .lf (.ptr 1 0 0 0)), (7, .lf (.v (.sl Y75) a0)), (8, I x68), (9, I x69)], [ar 0 (.int .i64) x67 .dp, bx [.v (.int .i64) ((a0.getD x69.toNat (Ty.dflt Y75)).1), .v (.int .i64) ((a0.getD x69.toNat (Ty.dflt Y75)).2)] 76]⟩) (φ := (InR x69 a0.length) ∧ True ∧ True ∧ True ∧ True) (by kernel_rfl) ⟨g93, trivial, trivial, trivial, trivial⟩ ?_
          refine VO.nil ?_
          show VW _ _ _ _ _ _ _
          refine VW.seq ?_
          refine VW.region ?_
          refine VO.seg T_ok .dp 2 [3, 5, 7, 8, 9, 14] [0, 1] (s' := ⟨[(3, .lf (.hd 0 0 none)), (5, .lf (.ptr 1 0 0 0)), (7, .lf (.v (.sl Y75) a0)), (8, I x68), (9, I x69), (14, I ((a0.getD x69.toNat (Ty.dflt Y75)).1))], [ar 0 (.int .i64) x67 .dp, bx [.v (.int .i64) ((a0.getD x69.toNat (Ty.dflt Y75)).1), .v (.int .i64) ((a0.getD x69.toNat (Ty.dflt Y75)).2)] 76]⟩) (φ := True ∧ True ∧ True) (by kernel_rfl) ⟨trivial, trivial, trivial⟩ ?_
          obtain ⟨y94, hy, h⟩ := andO_some h
          refine VO.call false [.t (.int .i64), .t (.int .i64), .t (.int .i64)] [] T_ok (d := some 15) (by kernel_rfl) (ok54 N _ _ _ hy) rfl ?_
          refine VO.seg T_ok .dp 0 [3, 5, 7, 8, 9, 15] [0, 1] (s' := ⟨[(3, .lf (.hd 0 0 none)), (5, .lf (.ptr 1 0 0 0)), (7, .lf (.v (.sl Y75) a0)), (8, I x68), (9, I x69), (15, B y94)], [ar 0 (.int .i64) x67 .dp, bx [.v (.int .i64) ((a0.getD x69.toNat (Ty.dflt Y75)).1), .v (.int .i64) ((a0.getD x69.toNat (Ty.dflt Y75)).2)] 76]⟩) (φ := True) (by kernel_rfl) trivial ?_
          refine VO.nil ?_
          show VW _ _ _ _ _ _ _
          refine VW.cond (b := y94) (by kernel_rfl) (fun hb => ?_) (fun hb => ?_)
          · replace h := cond_t h hb; clear hb
            refine VW.region ?_
            obtain ⟨g95, h⟩ := gd_some h
            obtain ⟨g96, h⟩ := gd_some h
            obtain ⟨g97, h⟩ := gd_some h
            obtain ⟨g98, h⟩ := gd_some h
            refine VO.seg T_ok .dp 8 [3, 7, 8, 9] [0] (s' := ⟨[(3, .lf (.hd 0 0 none)), (7, .lf (.v (.sl Y75) a0)), (8, I x68), (9, I x69)], [ar 0 (.int .i64) (x67.set (((a0.getD x69.toNat (Ty.dflt Y75)).1).toNat) (IntKind.i64.wrap ((x67.getD (((a0.getD x69.toNat (Ty.dflt Y75)).1).toNat) (Ty.dflt (.int .i64))) + (1 : Int)))) .dp]⟩) (φ := True ∧ True ∧ True ∧ (InR ((a0.getD x69.toNat (Ty.dflt Y75)).1) x67.length) ∧ (((a0.getD x69.toNat (Ty.dflt Y75)).1).toNat < x67.length) ∧ True ∧ (InR ((a0.getD x69.toNat (Ty.dflt Y75)).1) x67.length) ∧ (((a0.getD x69.toNat (Ty.dflt Y75)).1).toNat < x67.length) ∧ True) (by kernel_rfl) ⟨trivial, trivial, trivial, g95, g96, trivial, g97, g98, trivial⟩ ?_
            refine VO.nil ?_
            exact arrive [.ren [3, 7, 8, 9] [0]] (by kernel_rfl) ⟨(x67.set (((a0.getD x69.toNat (Ty.dflt Y75)).1).toNat) (IntKind.i64.wrap ((x67.getD (((a0.getD x69.toNat (Ty.dflt Y75)).1).toNat) (Ty.dflt (.int .i64))) + (1 : Int)))), rfl, h⟩
          · replace h := cond_f h hb; clear hb
            refine VW.skip ?_
            exact arrive [.ren [3, 7, 8, 9] [0]] (by kernel_rfl) ⟨x67, rfl, h⟩
        · rintro s ⟨x91, rfl, h⟩
          unfold F14_j1 at h
          refine VW.region ?_
          refine VO.seg T_ok .dp 2 [3, 7, 8, 9] [0] (s' := ⟨[(3, .lf (.hd 0 0 none)), (7, .lf (.v (.sl Y75) a0)), (8, I x68), (9, I (IntKind.i64.wrap (x69 + (1 : Int))))], [ar 0 (.int .i64) x91 .dp]⟩) (φ := True ∧ True ∧ True) (by kernel_rfl) ⟨trivial, trivial, trivial⟩ ?_
          refine VO.nil ?_
          exact around [.ren [3, 7, 8, 9] [0]] (by kernel_rfl) ⟨x91, x68, (IntKind.i64.wrap (x69 + (1 : Int))), rfl, h⟩
      · replace h := cond_f h hb; clear hb
        refine VW.exit ?_
        exact arrive [.ren [3] [0]] (by kernel_rfl) ⟨x67, rfl, h⟩
  · rintro s ⟨x49, rfl, h⟩
    unfold F14_j0 at h
    refine VW.seq ?_
    refine VW.region ?_
    refine VO.seg T_ok .dp 2 [2] [0] (s' := ⟨[(2, .lf (.hd 0 0 none))], [ar 0 (.int .i64) x49 .dp]⟩) (φ := True ∧ True ∧ True) (by kernel_rfl) ⟨trivial, trivial, trivial⟩ ?_
    refine VO.nil ?_
    show VW _ _ _ _ _ _ _
    refine VW.ret ?_
    replace h := Option.some.inj h
    subst h
    exact retR [some 0] (by kernel_rfl) rfl

/- loop.example/g00844/laws.eqIntS -/
def F15_j0 (N : Nat) : Option (Bool) :=
  some true
def F15_l0_b (N : Nat) (a0 : (List Int)) (a1 : (List Int)) (nx25 : Int → Option (Bool)) (x20 : Int) : Option (Bool) :=
  cond (decide (x20 < (a0.length : Int))) (gd (InR x20 a0.length) (gd (InR x20 a1.length) (cond ((a0.getD x20.toNat (Ty.dflt (.int .i64))) != (a1.getD x20.toNat (Ty.dflt (.int .i64)))) (some false) (nx25 (IntKind.i64.wrap (x20 + (1 : Int))))))) (F15_j0 N)
def F15_l0 (N : Nat) (a0 : (List Int)) (a1 : (List Int)) : Nat → Int → Option (Bool) := loopF (F15_l0_b N a0 a1) (fun _ => none)
theorem F15_l0_s (N : Nat) (a0 : (List Int)) (a1 : (List Int)) {k : Nat} (hk : 0 < k) (x20 : Int) : F15_l0 N a0 a1 k x20 = F15_l0_b N a0 a1 (F15_l0 N a0 a1 (k - 1)) x20 := by
  cases k with
  | zero => exact absurd hk (Nat.lt_irrefl 0)
  | succ m => rfl
def F15 (N : Nat) (a0 : (List Int)) (a1 : (List Int)) : Option (Bool) :=
  cond ((a0.length : Int) != (a1.length : Int)) (some false) (F15_l0 N a0 a1 N (0 : Int))
theorem ok15 (N : Nat) (a0 : (List Int)) (a1 : (List Int)) {r : Bool} (h : F15 N a0 a1 = some r) : Con Go.Proofs.Try.prog 15 [.lf (.v (.sl (.int .i64)) a0), .lf (.v (.sl (.int .i64)) a1)] [.lf (.v .bool r)] := by
  refine ⟨enters_of Go.Proofs.Try.func15 rfl (by decide), HC.intro [.lf (.v .bool)] T_ok Go.Proofs.Try.func15 rfl (Nat.le_of_ble_eq_true rfl) (Nat.le_of_ble_eq_true rfl) fun w0 E0 => ?_⟩
  unfold F15 at h
  show VW _ _ _ _ _ (retQ _ _ _ _) _
  refine VW.seq ?_
  refine VW.region ?_
  refine VO.seg T_ok .dp 1 [0, 1] [] (s' := ⟨[(0, .lf (.v (.sl (.int .i64)) a0)), (1, .lf (.v (.sl (.int .i64)) a1))], []⟩) (φ := True ∧ True) (by kernel_rfl) ⟨trivial, trivial⟩ ?_
  refine VO.nil ?_
  show VW _ _ _ _ _ _ _
  refine VW.seq ?_
  refine VW.seq ?_
  refine VW.region ?_
  refine VO.seg T_ok .dp 5 [0, 1, 10] [] (s' := ⟨[(0, .lf (.v (.sl (.int .i64)) a0)), (1, .lf (.v (.sl (.int .i64)) a1)), (10, B ((a0.length : Int) != (a1.length : Int)))], []⟩) (φ := True ∧ True ∧ True ∧ True ∧ True ∧ True) (by kernel_rfl) ⟨trivial, trivial, trivial, trivial, trivial, trivial⟩ ?_
  refine VO.nil ?_
  show VW _ _ _ _ _ _ _
  refine VW.cond (b := ((a0.length : Int) != (a1.length : Int))) (by kernel_rfl) (fun hb => ?_) (fun hb => ?_)
  · replace h := cond_t h hb; clear hb
    refine VW.seq ?_
    refine VW.region ?_
    refine VO.seg T_ok .dp 1 [4] [] (s' := ⟨[(4, B false)], []⟩) (φ := True ∧ True) (by kernel_rfl) ⟨trivial, trivial⟩ ?_
    refine VO.nil ?_
    show VW _ _ _ _ _ _ _
    refine VW.ret ?_
    replace h := Option.some.inj h
    subst h
    exact retR [] (by kernel_rfl) rfl
  · replace h := cond_f h hb; clear hb
    refine VW.skip ?_
    show VW _ _ _ _ _ _ _
    refine VW.join (fun s => s = ⟨[], []⟩ ∧ F15_j0 N = some r) ?_ ?_
    · refine VW.seq ?_
      refine VW.region ?_
      refine VO.seg T_ok .dp 1 [0, 1, 5] [] (s' := ⟨[(0, .lf (.v (.sl (.int .i64)) a0)), (1, .lf (.v (.sl (.int .i64)) a1)), (5, I (0 : Int))], []⟩) (φ := True ∧ True) (by kernel_rfl) ⟨trivial, trivial⟩ ?_
      refine VO.nil ?_
      show VW _ _ _ _ _ _ _
      refine VW.block ?_
      refine VW.loopL (fun k s => ∃ (x20 : Int), s = ⟨[(0, .lf (.v (.sl (.int .i64)) a0)), (1, .lf (.v (.sl (.int .i64)) a1)), (5, I x20)], []⟩ ∧ F15_l0 N a0 a1 k x20 = some r) N [.ren [0, 1, 5] []] (by kernel_rfl) ⟨(0 : Int), rfl, h⟩ ?_
      rintro k25 s ⟨x20, rfl, h⟩
      cases k25 with
      | zero => exact nomatch (show (none : Option (Bool)) = some r from h)
      | succ k25 =>
        replace h : F15_l0_b N a0 a1 (F15_l0 N a0 a1 k25) x20 = some r := h
        unfold F15_l0_b at h
        refine VW.seq ?_
        refine VW.seq ?_
        refine VW.region ?_
        refine VO.seg T_ok .dp 4 [0, 1, 5, 14] [] (s' := ⟨[(0, .lf (.v (.sl (.int .i64)) a0)), (1, .lf (.v (.sl (.int .i64)) a1)), (5, I x20), (14, B (decide (x20 < (a0.length : Int))))], []⟩) (φ := True ∧ True ∧ True ∧ True ∧ True) (by kernel_rfl) ⟨trivial, trivial, trivial, trivial, trivial⟩ ?_
        refine VO.nil ?_
        show VW _ _ _ _ _ _ _
        refine VW.cond (b := (decide (x20 < (a0.length : Int)))) (by kernel_rfl) (fun hb => ?_) (fun hb => ?_)
        · replace h := cond_t h hb; clear hb
          refine VW.skip ?_
          show VW _ _ _ _ _ _ _
          refine VW.seq ?_
          refine VW.block ?_
          refine VW.seq ?_
          obtain ⟨g28, h⟩ := gd_some h
          obtain ⟨g29, h⟩ := gd_some h
          refine VW.drawn (by kernel_rfl) [some (17, .lf (.v (.sl (.int .i64)) a0)), some (18, I x20), some (19, .lf (.fp (.int .i64) (a0.getD x20.toNat (Ty.dflt (.int .i64))) 0)), some (20, I (a0.getD x20.toNat (Ty.dflt (.int .i64)))), some (21, .lf (.v (.sl (.int .i64)) a1)), some (22, I x20), some (23, .lf (.fp (.int .i64) (a1.getD x20.toNat (Ty.dflt (.int .i64))) 0)), some (24, I (a1.getD x20.toNat (Ty.dflt (.int .i64)))), some (25, B ((a0.getD x20.toNat (Ty.dflt (.int .i64))) != (a1.getD x20.toNat (Ty.dflt (.int .i64)))))] [] [[]] [(0, 0), (1, 0), (2, 0), (3, 0), (4, 0), (5, 0), (6, 0), (7, 0), (8, 0)] [0, 1, 5, 25] [] (s' := ⟨[(0, .lf (.v (.sl (.int .i64)) a0)), (1, .lf (.v (.sl (.int .i64)) a1)), (5, I x20), (25, B ((a0.getD x20.toNat (Ty.dflt (.int .i64))) != (a1.getD x20.toNat (Ty.dflt (.int .i64)))))], []⟩) (by kernel_rfl) (by kernel_rfl) ⟨⟨_, rfl, Stp.ev T_ok (m := .dp) (φ := True) (by kernel_rfl) trivial⟩,
    ⟨_, rfl, Stp.ev T_ok (m := .dp) (φ := True) (by kernel_rfl) trivial⟩,
    ⟨_, rfl, Stp.ev T_ok (m := .dp) (φ := InR x20 a0.length) (by kernel_rfl) g28⟩,
    ⟨_, rfl, Stp.ev T_ok (m := .dp) (φ := True) (by kernel_rfl) trivial⟩,
    ⟨_, rfl, Stp.ev T_ok (m := .dp) (φ := True) (by kernel_rfl) trivial⟩,
    ⟨_, rfl, Stp.ev T_ok (m := .dp) (φ := True) (by kernel_rfl) trivial⟩,
    ⟨_, rfl, Stp.ev T_ok (m := .dp) (φ := InR x20 a1.length) (by kernel_rfl) g29⟩,
    ⟨_, rfl, Stp.ev T_ok (m := .dp) (φ := True) (by kernel_rfl) trivial⟩,
    ⟨_, rfl, Stp.ev T_ok (m := .dp) (φ := True) (by kernel_rfl) trivial⟩, trivial⟩ (by kernel_rfl) ?_
          show VW _ _ _ _ _ _ _
          refine VW.cond (b := ((a0.getD x20.toNat (Ty.dflt (.int .i64))) != (a1.getD x20.toNat (Ty.dflt (.int .i64))))) (by kernel_rfl) (fun hb => ?_) (fun hb => ?_)
          · replace h := cond_t h hb; clear hb
            refine VW.seq ?_
            refine VW.region ?_
            refine VO.seg T_ok .dp 1 [4] [] (s' := ⟨[(4, B false)], []⟩) (φ := True ∧ True) (by kernel_rfl) ⟨trivial, trivial⟩ ?_
            refine VO.nil ?_
            show VW _ _ _ _ _ _ _
            refine VW.ret ?_
            replace h := Option.some.inj h
            subst h
            exact retR [] (by kernel_rfl) rfl
          · replace h := cond_f h hb; clear hb
            refine VW.skip ?_
            show VW _ _ _ _ _ _ _
            refine VW.region ?_
            refine VO.seg T_ok .dp 3 [0, 1, 5] [] (s' := ⟨[(0, .lf (.v (.sl (.int .i64)) a0)), (1, .lf (.v (.sl (.int .i64)) a1)), (5, I (IntKind.i64.wrap (x20 + (1 : Int))))], []⟩) (φ := True ∧ True ∧ True ∧ True) (by kernel_rfl) ⟨trivial, trivial, trivial, trivial⟩ ?_
            refine VO.nil ?_
            exact around [.ren [0, 1, 5] []] (by kernel_rfl) ⟨(IntKind.i64.wrap (x20 + (1 : Int))), rfl, h⟩
        · replace h := cond_f h hb; clear hb
          refine VW.exit ?_
          exact arrive [.ren [] []] (by kernel_rfl) ⟨rfl, h⟩
    · rintro s ⟨rfl, h⟩
      unfold F15_j0 at h
      refine VW.seq ?_
      refine VW.region ?_
      refine VO.seg T_ok .dp 1 [4] [] (s' := ⟨[(4, B true)], []⟩) (φ := True ∧ True) (by kernel_rfl) ⟨trivial, trivial⟩ ?_
      refine VO.nil ?_
      show VW _ _ _ _ _ _ _
      refine VW.ret ?_
      replace h := Option.some.inj h
      subst h
      exact retR [] (by kernel_rfl) rfl

/- loop.example/g00844/laws.eqStep -/
def F56 (N : Nat) (a0 : (Int × Int)) (a1 : (Int × Int)) : Option (Bool) :=
  cond (a0.1 != a1.1) (some false) (cond (a0.2 != a1.2) (some false) (some true))
theorem ok56 (N : Nat) (a0 : (Int × Int)) (a1 : (Int × Int)) {r : Bool} (h : F56 N a0 a1 = some r) : Con Go.Proofs.Try.prog 56 [.agg [.v (.int .i64) a0.1, .v (.int .i64) a0.2], .agg [.v (.int .i64) a1.1, .v (.int .i64) a1.2]] [.lf (.v .bool r)] := by
  refine ⟨enters_of Go.Proofs.Try.func56 rfl (by decide), HC.intro [.lf (.v .bool)] T_ok Go.Proofs.Try.func56 rfl (Nat.le_of_ble_eq_true rfl) (Nat.le_of_ble_eq_true rfl) fun w0 E0 => ?_⟩
  unfold F56 at h
  show VW _ _ _ _ _ (retQ _ _ _ _) _
  refine VW.seq ?_
  refine VW.region ?_
  refine VO.seg T_ok .dp 3 [2, 3] [0, 1] (s' := ⟨[(2, .lf (.ptr 0 0 0 0)), (3, .lf (.ptr 1 0 0 0))], [bx [.v (.int .i64) a0.1, .v (.int .i64) a0.2] 76, bx [.v (.int .i64) a1.1, .v (.int .i64) a1.2] 76]⟩) (φ := True ∧ True ∧ True ∧ True) (by kernel_rfl) ⟨trivial, trivial, trivial, trivial⟩ ?_
  refine VO.nil ?_
  show VW _ _ _ _ _ _ _
  refine VW.seq ?_
  refine VW.seq ?_
  refine VW.region ?_
  refine VO.seg T_ok .dp 5 [2, 3, 9] [0, 1] (s' := ⟨[(2, .lf (.ptr 0 0 0 0)), (3, .lf (.ptr 1 0 0 0)), (9, B (a0.1 != a1.1))], [bx [.v (.int .i64) a0.1, .v (.int .i64) a0.2] 76, bx [.v (.int .i64) a1.1, .v (.int .i64) a1.2] 76]⟩) (φ := True ∧ True ∧ True ∧ True ∧ True ∧ True) (by kernel_rfl) ⟨trivial, trivial, trivial, trivial, trivial, trivial⟩ ?_
  refine VO.nil ?_
  show VW _ _ _ _ _ _ _
  refine VW.cond (b := (a0.1 != a1.1)) (by kernel_rfl) (fun hb => ?_) (fun hb => ?_)
  · replace h := cond_t h hb; clear hb
    refine VW.seq ?_
    refine VW.region ?_
    refine VO.seg T_ok .dp 1 [4] [] (s' := ⟨[(4, B false)], []⟩) (φ := True ∧ True) (by kernel_rfl) ⟨trivial, trivial⟩ ?_
    refine VO.nil ?_
    show VW _ _ _ _ _ _ _
    refine VW.ret ?_
    replace h := Option.some.inj h
    subst h
    exact retR [] (by kernel_rfl) rfl
  · replace h := cond_f h hb; clear hb
    refine VW.skip ?_
    show VW _ _ _ _ _ _ _
    refine VW.seq ?_
    refine VW.seq ?_
    refine VW.region ?_
    refine VO.seg T_ok .dp 5 [14] [] (s' := ⟨[(14, B (a0.2 != a1.2))], []⟩) (φ := True ∧ True ∧ True ∧ True ∧ True ∧ True) (by kernel_rfl) ⟨trivial, trivial, trivial, trivial, trivial, trivial⟩ ?_
    refine VO.nil ?_
    show VW _ _ _ _ _ _ _
    refine VW.cond (b := (a0.2 != a1.2)) (by kernel_rfl) (fun hb => ?_) (fun hb => ?_)
    · replace h := cond_t h hb; clear hb
      refine VW.seq ?_
      refine VW.region ?_
      refine VO.seg T_ok .dp 1 [4] [] (s' := ⟨[(4, B false)], []⟩) (φ := True ∧ True) (by kernel_rfl) ⟨trivial, trivial⟩ ?_
      refine VO.nil ?_
      show VW _ _ _ _ _ _ _
      refine VW.ret ?_
      replace h := Option.some.inj h
      subst h
      exact retR [] (by kernel_rfl) rfl
    · replace h := cond_f h hb; clear hb
      refine VW.skip ?_
      show VW _ _ _ _ _ _ _
      refine VW.seq ?_
      refine VW.region ?_
      refine VO.seg T_ok .dp 1 [4] [] (s' := ⟨[(4, B true)], []⟩) (φ := True ∧ True) (by kernel_rfl) ⟨trivial, trivial⟩ ?_
      refine VO.nil ?_
      show VW _ _ _ _ _ _ _
      refine VW.ret ?_
      replace h := Option.some.inj h
      subst h
      exact retR [] (by kernel_rfl) rfl

/- loop.example/g00844/laws.eqStepS -/
def F16_j0 (N : Nat) : Option (Bool) :=
  some true
def F16_l0_b (N : Nat) (a0 : (List (Int × Int))) (a1 : (List (Int × Int))) (nx35 : Int → Option (Bool)) (x28 : Int) : Option (Bool) :=
  cond (decide (x28 < (a0.length : Int))) (gd (InR x28 a0.length) (gd (InR x28 a1.length) (andO (F56 N (a0.getD x28.toNat (Ty.dflt Y75)) (a1.getD x28.toNat (Ty.dflt Y75))) fun y41 => cond (!y41) (some false) (nx35 (IntKind.i64.wrap (x28 + (1 : Int))))))) (F16_j0 N)
def F16_l0 (N : Nat) (a0 : (List (Int × Int))) (a1 : (List (Int × Int))) : Nat → Int → Option (Bool) := loopF (F16_l0_b N a0 a1) (fun _ => none)
theorem F16_l0_s (N : Nat) (a0 : (List (Int × Int))) (a1 : (List (Int × Int))) {k : Nat} (hk : 0 < k) (x28 : Int) : F16_l0 N a0 a1 k x28 = F16_l0_b N a0 a1 (F16_l0 N a0 a1 (k - 1)) x28 := by
  cases k with
  | zero => exact absurd hk (Nat.lt_irrefl 0)
  | succ m => rfl
def F16 (N : Nat) (a0 : (List (Int × Int))) (a1 : (List (Int × Int))) : Option (Bool) :=
  cond ((a0.length : Int) != (a1.length : Int)) (some false) (F16_l0 N a0 a1 N (0 : Int))
theorem ok16 (N : Nat) (a0 : (List (Int × Int))) (a1 : (List (Int × Int))) {r : Bool} (h : F16 N a0 a1 = some r) : Con Go.Proofs.Try.prog 16 [.lf (.v (.sl Y75) a0), .lf (.v (.sl Y75) a1)] [.lf (.v .bool r)] := by
  refine ⟨enters_of Go.Proofs.Try.func16 rfl (by decide), HC.intro [.lf (.v .bool)] T_ok Go.Proofs.Try.func16 rfl (Nat.le_of_ble_eq_true rfl) (Nat.le_of_ble_eq_true rfl) fun w0 E0 => ?_⟩
  unfold F16 at h
  show VW _ _ _ _ _ (retQ _ _ _ _) _
  refine VW.seq ?_
  refine VW.region ?_
  refine VO.seg T_ok .dp 1 [0, 1] [] (s' := ⟨[(0, .lf (.v (.sl Y75) a0)), (1, .lf (.v (.sl Y75) a1))], []⟩) (φ := True ∧ True) (by kernel_rfl) ⟨trivial, trivial⟩ ?_
  refine VO.nil ?_
  show VW _ _ _ _ _ _ _
  refine VW.seq ?_
  refine VW.seq ?_
  refine VW.region ?_
  refine VO.seg T_ok .dp 5 [0, 1, 10] [] (s' := ⟨[(0, .lf (.v (.sl Y75) a0)), (1, .lf (.v (.sl Y75) a1)), (10, B ((a0.length : Int) != (a1.length : Int)))], []⟩) (φ := True ∧ True ∧ True ∧ True ∧ True ∧ True) (by kernel_rfl) ⟨trivial, trivial, trivial, trivial, trivial, trivial⟩ ?_
  refine VO.nil ?_
  show VW _ _ _ _ _ _ _
  refine VW.cond (b := ((a0.length : Int) != (a1.length : Int))) (by kernel_rfl) (fun hb => ?_) (fun hb => ?_)
  · replace h := cond_t h hb; clear hb
    refine VW.seq ?_
    refine VW.region ?_
    refine VO.seg T_ok .dp 1 [4] [] (s' := ⟨[(4, B false)], []⟩) (φ := True ∧ True) (by kernel_rfl) ⟨trivial, trivial⟩ ?_
    refine VO.nil ?_
    show VW _ _ _ _ _ _ _
    refine VW.ret ?_
    replace h := Option.some.inj h
    subst h
    exact retR [] (by kernel_rfl) rfl
  · replace h := cond_f h hb; clear hb
    refine VW.skip ?_
    show VW _ _ _ _ _ _ _
    refine VW.join (fun s => s = ⟨[], []⟩ ∧ F16_j0 N = some r) ?_ ?_
    · refine VW.seq ?_
      refine VW.region ?_
      refine VO.seg T_ok .dp 1 [0, 1, 5] [] (s' := ⟨[(0, .lf (.v (.sl Y75) a0)), (1, .lf (.v (.sl Y75) a1)), (5, I (0 : Int))], []⟩) (φ := True ∧ True) (by kernel_rfl) ⟨trivial, trivial⟩ ?_
      refine VO.nil ?_
      show VW _ _ _ _ _ _ _
      refine VW.block ?_
      refine VW.loopL (fun k s => ∃ (x28 : Int), s = ⟨[(0, .lf (.v (.sl Y75) a0)), (1, .lf (.v (.sl Y75) a1)), (5, I x28)], []⟩ ∧ F16_l0 N a0 a1 k x28 = some r) N [.ren [0, 1, 5] []] (by kernel_rfl) ⟨(0 : Int), rfl, h⟩ ?_
      rintro k35 s ⟨x28, rfl, h⟩
      cases k35 with
      | zero => exact nomatch (show (none : Option (Bool)) = some r from h)
      | succ k35 =>
        replace h : F16_l0_b N a0 a1 (F16_l0 N a0 a1 k35) x28 = some r := h
        unfold F16_l0_b at h
        refine VW.seq ?_
        refine VW.seq ?_
        refine VW.region ?_
        refine VO.seg T_ok .dp 4 [0, 1, 5, 14] [] (s' := ⟨[(0, .lf (.v (.sl Y75) a0)), (1, .lf (.v (.sl Y75) a1)), (5, I x28), (14, B (decide (x28 < (a0.length : Int))))], []⟩) (φ := True ∧ True ∧ True ∧ True ∧ True) (by kernel_rfl) ⟨trivial, trivial, trivial, trivial, trivial⟩ ?_
        refine VO.nil ?_
        show VW _ _ _ _ _ _ _
        refine VW.cond (b := (decide (x28 < (a0.length : Int)))) (by kernel_rfl) (fun hb => ?_) (fun hb => ?_)
        · replace h := cond_t h hb; clear hb
          refine VW.skip ?_
          show VW _ _ _ _ _ _ _
          refine VW.seq ?_
          refine VW.block ?_
          refine VW.seq ?_
          obtain ⟨g39, h⟩ := gd_some h
          obtain ⟨g40, h⟩ := gd_some h
          obtain ⟨y41, hy41, h⟩ := andO_some h
          refine VW.drawn (by kernel_rfl) [some (17, .lf (.v (.sl Y75) a0)), some (18, I x28), some (19, .lf (.fp Y75 (a0.getD x28.toNat (Ty.dflt Y75)) 0)), some (20, .agg [.v (.int .i64) ((a0.getD x28.toNat (Ty.dflt Y75)).1), .v (.int .i64) ((a0.getD x28.toNat (Ty.dflt Y75)).2)]), some (21, .lf (.v (.sl Y75) a1)), some (22, I x28), some (23, .lf (.fp Y75 (a1.getD x28.toNat (Ty.dflt Y75)) 0)), some (24, .agg [.v (.int .i64) ((a1.getD x28.toNat (Ty.dflt Y75)).1), .v (.int .i64) ((a1.getD x28.toNat (Ty.dflt Y75)).2)]), some (25, B y41), some (26, B (!y41))] [] [[]] [(0, 0), (1, 0), (2, 0), (3, 0), (4, 0), (5, 0), (6, 0), (7, 0), (8, 0), (9, 0)] [0, 1, 5, 26] [] (s' := ⟨[(0, .lf (.v (.sl Y75) a0)), (1, .lf (.v (.sl Y75) a1)), (5, I x28), (26, B (!y41))], []⟩) (by kernel_rfl) (by kernel_rfl) ⟨⟨_, rfl, Stp.ev T_ok (m := .dp) (φ := True) (by kernel_rfl) trivial⟩,
    ⟨_, rfl, Stp.ev T_ok (m := .dp) (φ := True) (by kernel_rfl) trivial⟩,
    ⟨_, rfl, Stp.ev T_ok (m := .dp) (φ := InR x28 a0.length) (by kernel_rfl) g39⟩,
    ⟨_, rfl, Stp.ev T_ok (m := .dp) (φ := True) (by kernel_rfl) trivial⟩,
    ⟨_, rfl, Stp.ev T_ok (m := .dp) (φ := True) (by kernel_rfl) trivial⟩,
    ⟨_, rfl, Stp.ev T_ok (m := .dp) (φ := True) (by kernel_rfl) trivial⟩,
    ⟨_, rfl, Stp.ev T_ok (m := .dp) (φ := InR x28 a1.length) (by kernel_rfl) g40⟩,
    ⟨_, rfl, Stp.ev T_ok (m := .dp) (φ := True) (by kernel_rfl) trivial⟩,
    ⟨_, rfl, Stp.eq (Stp.call false [.t Y75, .t Y75] [] T_ok (d := some 25) (by kernel_rfl) (ok56 N _ _ hy41) rfl) (by kernel_rfl) (by kernel_rfl)⟩,
    ⟨_, rfl, Stp.ev T_ok (m := .dp) (φ := True) (by kernel_rfl) trivial⟩, trivial⟩ (by kernel_rfl) ?_
          show VW _ _ _ _ _ _ _
          refine VW.cond (b := (!y41)) (by kernel_rfl) (fun hb => ?_) (fun hb => ?_)
          · replace h := cond_t h hb; clear hb
            refine VW.seq ?_
            refine VW.region ?_
            refine VO.seg T_ok .dp 1 [4] [] (s' := ⟨[(4, B false)], []⟩) (φ := True ∧ True) (by kernel_rfl) ⟨trivial, trivial⟩ ?_
            refine VO.nil ?_
            show VW _ _ _ _ _ _ _
            refine VW.ret ?_
            replace h := Option.some.inj h
            subst h
            exact retR [] (by kernel_rfl) rfl
          · replace h := cond_f h hb; clear hb
            refine VW.skip ?_
            show VW _ _ _ _ _ _ _
            refine VW.region ?_
            refine VO.seg T_ok .dp 3 [0, 1, 5] [] (s' := ⟨[(0, .lf (.v (.sl Y75) a0)), (1, .lf (.v (.sl Y75) a1)), (5, I (IntKind.i64.wrap (x28 + (1 : Int))))], []⟩) (φ := True ∧ True ∧ True ∧ True) (by kernel_rfl) ⟨trivial, trivial, trivial, trivial⟩ ?_
            refine VO.nil ?_
            exact around [.ren [0, 1, 5] []] (by kernel_rfl) ⟨(IntKind.i64.wrap (x28 + (1 : Int))), rfl, h⟩
        · replace h := cond_f h hb; clear hb
          refine VW.exit ?_
          exact arrive [.ren [] []] (by kernel_rfl) ⟨rfl, h⟩
    · rintro s ⟨rfl, h⟩
      unfold F16_j0 at h
      refine VW.seq ?_
      refine VW.region ?_
      refine VO.seg T_ok .dp 1 [4] [] (s' := ⟨[(4, B true)], []⟩) (φ := True ∧ True) (by kernel_rfl) ⟨trivial, trivial⟩ ?_
      refine VO.nil ?_
      show VW _ _ _ _ _ _ _
      refine VW.ret ?_
      replace h := Option.some.inj h
      subst h
      exact retR [] (by kernel_rfl) rfl

/- loop.example/g00844/laws.markStepS -/
def F17_j0 (N : Nat) (x29 : Int) (x30 : (List (Int × Int))) : Option ((List (Int × Int)) × Int) :=
  some (x30, x29)
def F17_l0_b (N : Nat) (nx51 : (List (Int × Int)) → Int → Int → Option ((List (Int × Int)) × Int)) (x40 : (List (Int × Int))) (x41 : Int) (x42 : Int) : Option ((List (Int × Int)) × Int) :=
  cond (decide (x42 < (x40.length : Int))) (gd (InR x42 x40.length) (gd (x42.toNat < x40.length) (gd (InR x42 (x40.set x42.toNat (x41, (x40.getD x42.toNat (Ty.dflt Y75)).2)).length) (gd (x42.toNat < (x40.set x42.toNat (x41, (x40.getD x42.toNat (Ty.dflt Y75)).2)).length) (nx51 ((x40.set x42.toNat (x41, (x40.getD x42.toNat (Ty.dflt Y75)).2)).set x42.toNat (((x40.set x42.toNat (x41, (x40.getD x42.toNat (Ty.dflt Y75)).2)).getD x42.toNat (Ty.dflt Y75)).1, (IntKind.i64.wrap (x41 + (1 : Int))))) (IntKind.i64.wrap ((IntKind.i64.wrap (x41 + (1 : Int))) + (1 : Int))) (IntKind.i64.wrap (x42 + (1 : Int)))))))) (F17_j0 N x41 x40)
def F17_l0 (N : Nat) : Nat → (List (Int × Int)) → Int → Int → Option ((List (Int × Int)) × Int) := loopF (F17_l0_b N) (fun _ _ _ => none)
theorem F17_l0_s (N : Nat) {k : Nat} (hk : 0 < k) (x40 : (List (Int × Int))) (x41 : Int) (x42 : Int) : F17_l0 N k x40 x41 x42 = F17_l0_b N (F17_l0 N (k - 1)) x40 x41 x42 := by
  cases k with
  | zero => exact absurd hk (Nat.lt_irrefl 0)
  | succ m => rfl
def F17 (N : Nat) (a0 : (List (Int × Int))) (a1 : Int) : Option ((List (Int × Int)) × Int) :=
  F17_l0 N N a0 a1 (0 : Int)
theorem ok17 (N : Nat) (a0 : (List (Int × Int))) (a1 : Int) {r : (List (Int × Int)) × Int} (h : F17 N a0 a1 = some r) : ConM Go.Proofs.Try.prog 17 [ar 0 Y75 a0 .dp] [.lf (.hd 0 0 none), I a1] [.lf (.v (.int .i64) r.2)] [ar 0 Y75 r.1 .dp] := by
  refine ⟨enters_of Go.Proofs.Try.func17 rfl (by decide), HM.intro [.lf (.v (.int .i64))] T_ok Go.Proofs.Try.func17 rfl (Nat.le_of_ble_eq_true rfl) (Nat.le_of_ble_eq_true rfl) fun w0 E0 => ?_⟩
  unfold F17 at h
  show VW _ _ _ _ _ (retM _ _ _ _ _) _
  refine VW.seq ?_
  refine VW.region ?_
  refine VO.seg T_ok .dp 1 [0, 1, 65536] [0] (s' := ⟨[(0, .lf (.hd 0 0 none)), (1, I a1), (65536, .lf (.hd 0 0 none))], [ar 0 Y75 a0 .dp]⟩) (φ := True ∧ True) (by kernel_rfl) ⟨trivial, trivial⟩ ?_
  refine VO.nil ?_
  show VW _ _ _ _ _ _ _
  refine VW.join (fun s => ∃ (x29 : Int) (x30 : (List (Int × Int))), s = ⟨[(1, I x29), (65536, .lf (.hd 0 0 none))], [ar 0 Y75 x30 .dp]⟩ ∧ F17_j0 N x29 x30 = some r) ?_ ?_
  · refine VW.seq ?_
    refine VW.region ?_
    refine VO.seg T_ok .dp 1 [0, 1, 5, 65536] [0] (s' := ⟨[(0, .lf (.hd 0 0 none)), (1, I a1), (5, I (0 : Int)), (65536, .lf (.hd 0 0 none))], [ar 0 Y75 a0 .dp]⟩) (φ := True ∧ True) (by kernel_rfl) ⟨trivial, trivial⟩ ?_
    refine VO.nil ?_
    show VW _ _ _ _ _ _ _
    refine VW.block ?_
    refine VW.loopL (fun k s => ∃ (x40 : (List (Int × Int))) (x41 : Int) (x42 : Int), s = ⟨[(0, .lf (.hd 0 0 none)), (1, I x41), (5, I x42), (65536, .lf (.hd 0 0 none))], [ar 0 Y75 x40 .dp]⟩ ∧ F17_l0 N k x40 x41 x42 = some r) N [.ren [0, 1, 5, 65536] [0]] (by kernel_rfl) ⟨a0, a1, (0 : Int), rfl, h⟩ ?_
    rintro k51 s ⟨x40, x41, x42, rfl, h⟩
    cases k51 with
    | zero => exact nomatch (show (none : Option ((List (Int × Int)) × Int)) = some r from h)
    | succ k51 =>
      replace h : F17_l0_b N (F17_l0 N k51) x40 x41 x42 = some r := h
      unfold F17_l0_b at h
      refine VW.seq ?_
      refine VW.seq ?_
      refine VW.region ?_
      refine VO.seg T_ok .dp 4 [0, 1, 5, 9, 65536] [0] (s' := ⟨[(0, .lf (.hd 0 0 none)), (1, I x41), (5, I x42), (9, B (decide (x42 < (x40.length : Int)))), (65536, .lf (.hd 0 0 none))], [ar 0 Y75 x40 .dp]⟩) (φ := True ∧ True ∧ True ∧ True ∧ True) (by kernel_rfl) ⟨trivial, trivial, trivial, trivial, trivial⟩ ?_
      refine VO.nil ?_
      show VW _ _ _ _ _ _ _
      refine VW.cond (b := (decide (x42 < (x40.length : Int)))) (by kernel_rfl) (fun hb => ?_) (fun hb => ?_)
      · replace h := cond_t h hb; clear hb
        refine VW.skip ?_
        show VW _ _ _ _ _ _ _
        refine VW.seq ?_
        refine VW.block ?_
        refine VW.seq ?_
        refine VW.region ?_
        obtain ⟨g56, h⟩ := gd_some h
        obtain ⟨g57, h⟩ := gd_some h
        refine VO.seg T_ok .dp 6 [0, 1, 5, 65536] [0] (s' := ⟨[(0, .lf (.hd 0 0 none)), (1, I x41), (5, I x42), (65536, .lf (.hd 0 0 none))], [ar 0 Y75 (x40.set x42.toNat (x41, (x40.getD x42.toNat (Ty.dflt Y75)).2)) .dp]⟩) (φ := True ∧ True ∧ True ∧ (InR x42 x40.length) ∧ True ∧ (x42.toNat < x40.length) ∧ True) (by kernel_rfl) ⟨trivial, trivial, trivial, g56, trivial, g57, trivial⟩ ?_
        refine VO.nil ?_
        show VW _ _ _ _ _ _ _
        refine VW.seq ?_
        refine VW.region ?_
        refine VO.seg T_ok .dp 3 [0, 1, 5, 65536] [0] (s' := ⟨[(0, .lf (.hd 0 0 none)), (1, I (IntKind.i64.wrap (x41 + (1 : Int)))), (5, I x42), (65536, .lf (.hd 0 0 none))], [ar 0 Y75 (x40.set x42.toNat (x41, (x40.getD x42.toNat (Ty.dflt Y75)).2)) .dp]⟩) (φ := True ∧ True ∧ True ∧ True) (by kernel_rfl) ⟨trivial, trivial, trivial, trivial⟩ ?_
        refine VO.nil ?_
        show VW _ _ _ _ _ _ _
        refine VW.seq ?_
        refine VW.region ?_
        obtain ⟨g58, h⟩ := gd_some h
        obtain ⟨g59, h⟩ := gd_some h
        refine VO.seg T_ok .dp 6 [0, 1, 5, 65536] [0] (s' := ⟨[(0, .lf (.hd 0 0 none)), (1, I (IntKind.i64.wrap (x41 + (1 : Int)))), (5, I x42), (65536, .lf (.hd 0 0 none))], [ar 0 Y75 ((x40.set x42.toNat (x41, (x40.getD x42.toNat (Ty.dflt Y75)).2)).set x42.toNat (((x40.set x42.toNat (x41, (x40.getD x42.toNat (Ty.dflt Y75)).2)).getD x42.toNat (Ty.dflt Y75)).1, (IntKind.i64.wrap (x41 + (1 : Int))))) .dp]⟩) (φ := True ∧ True ∧ True ∧ (InR x42 (x40.set x42.toNat (x41, (x40.getD x42.toNat (Ty.dflt Y75)).2)).length) ∧ True ∧ (x42.toNat < (x40.set x42.toNat (x41, (x40.getD x42.toNat (Ty.dflt Y75)).2)).length) ∧ True) (by kernel_rfl) ⟨trivial, trivial, trivial, g58, trivial, g59, trivial⟩ ?_
        refine VO.nil ?_
        show VW _ _ _ _ _ _ _
        refine VW.region ?_
        refine VO.seg T_ok .dp 3 [0, 1, 5, 65536] [0] (s' := ⟨[(0, .lf (.hd 0 0 none)), (1, I (IntKind.i64.wrap ((IntKind.i64.wrap (x41 + (1 : Int))) + (1 : Int)))), (5, I x42), (65536, .lf (.hd 0 0 none))], [ar 0 Y75 ((x40.set x42.toNat (x41, (x40.getD x42.toNat (Ty.dflt Y75)).2)).set x42.toNat (((x40.set x42.toNat (x41, (x40.getD x42.toNat (Ty.dflt Y75)).2)).getD x42.toNat (Ty.dflt Y75)).1, (IntKind.i64.wrap (x41 + (1 : Int))))) .dp]⟩) (φ := True ∧ True ∧ True ∧ True) (by kernel_rfl) ⟨trivial, trivial, trivial, trivial⟩ ?_
        refine VO.nil ?_
        show VW _ _ _ _ _ _ _
        refine VW.region ?_
        refine VO.seg T_ok .dp 3 [0, 1, 5, 65536] [0] (s' := ⟨[(0, .lf (.hd 0 0 none)), (1, I (IntKind.i64.wrap ((IntKind.i64.wrap (x41 + (1 : Int))) + (1 : Int)))), (5, I (IntKind.i64.wrap (x42 + (1 : Int)))), (65536, .lf (.hd 0 0 none))], [ar 0 Y75 ((x40.set x42.toNat (x41, (x40.getD x42.toNat (Ty.dflt Y75)).2)).set x42.toNat (((x40.set x42.toNat (x41, (x40.getD x42.toNat (Ty.dflt Y75)).2)).getD x42.toNat (Ty.dflt Y75)).1, (IntKind.i64.wrap (x41 + (1 : Int))))) .dp]⟩) (φ := True ∧ True ∧ True ∧ True) (by kernel_rfl) ⟨trivial, trivial, trivial, trivial⟩ ?_
        refine VO.nil ?_
        exact around [.ren [0, 1, 5, 65536] [0]] (by kernel_rfl) ⟨((x40.set x42.toNat (x41, (x40.getD x42.toNat (Ty.dflt Y75)).2)).set x42.toNat (((x40.set x42.toNat (x41, (x40.getD x42.toNat (Ty.dflt Y75)).2)).getD x42.toNat (Ty.dflt Y75)).1, (IntKind.i64.wrap (x41 + (1 : Int))))), (IntKind.i64.wrap ((IntKind.i64.wrap (x41 + (1 : Int))) + (1 : Int))), (IntKind.i64.wrap (x42 + (1 : Int))), rfl, h⟩
      · replace h := cond_f h hb; clear hb
        refine VW.exit ?_
        exact arrive [.ren [1, 65536] [0]] (by kernel_rfl) ⟨x41, x40, rfl, h⟩
  · rintro s ⟨x29, x30, rfl, h⟩
    unfold F17_j0 at h
    refine VW.seq ?_
    refine VW.region ?_
    refine VO.seg T_ok .dp 2 [4, 65536] [0] (s' := ⟨[(4, I x29), (65536, .lf (.hd 0 0 none))], [ar 0 Y75 x30 .dp]⟩) (φ := True ∧ True ∧ True) (by kernel_rfl) ⟨trivial, trivial, trivial⟩ ?_
    refine VO.nil ?_
    show VW _ _ _ _ _ _ _
    replace h := Option.some.inj h
    subst h
    refine VW.ghl [.ren [4, 65536] [0]] (VW.ret ?_)
    exact ⟨[], by kernel_rfl, by kernel_rfl, by kernel_rfl⟩

/- loop.example/g00844/laws.markIntS -/
def F18_j0 (N : Nat) (x17 : Int) (x18 : (List Int)) : Option ((List Int) × Int) :=
  some (x18, x17)
def F18_l0_b (N : Nat) (nx31 : (List Int) → Int → Int → Option ((List Int) × Int)) (x24 : (List Int)) (x25 : Int) (x26 : Int) : Option ((List Int) × Int) :=
  cond (decide (x26 < (x24.length : Int))) (gd (InR x26 x24.length) (gd (x26.toNat < x24.length) (nx31 (x24.set x26.toNat x25) (IntKind.i64.wrap (x25 + (1 : Int))) (IntKind.i64.wrap (x26 + (1 : Int)))))) (F18_j0 N x25 x24)
def F18_l0 (N : Nat) : Nat → (List Int) → Int → Int → Option ((List Int) × Int) := loopF (F18_l0_b N) (fun _ _ _ => none)
theorem F18_l0_s (N : Nat) {k : Nat} (hk : 0 < k) (x24 : (List Int)) (x25 : Int) (x26 : Int) : F18_l0 N k x24 x25 x26 = F18_l0_b N (F18_l0 N (k - 1)) x24 x25 x26 := by
  cases k with
  | zero => exact absurd hk (Nat.lt_irrefl 0)
  | succ m => rfl
def F18 (N : Nat) (a0 : (List Int)) (a1 : Int) : Option ((List Int) × Int) :=
  F18_l0 N N a0 a1 (0 : Int)
theorem ok18 (N : Nat) (a0 : (List Int)) (a1 : Int) {r : (List Int) × Int} (h : F18 N a0 a1 = some r) : ConM Go.Proofs.Try.prog 18 [ar 0 (.int .i64) a0 .dp] [.lf (.hd 0 0 none), I a1] [.lf (.v (.int .i64) r.2)] [ar 0 (.int .i64) r.1 .dp] := by
  refine ⟨enters_of Go.Proofs.Try.func18 rfl (by decide), HM.intro [.lf (.v (.int .i64))] T_ok Go.Proofs.Try.func18 rfl (Nat.le_of_ble_eq_true rfl) (Nat.le_of_ble_eq_true rfl) fun w0 E0 => ?_⟩
  unfold F18 at h
  show VW _ _ _ _ _ (retM _ _ _ _ _) _
  refine VW.seq ?_
  refine VW.region ?_
  refine VO.seg T_ok .dp 1 [0, 1, 65536] [0] (s' := ⟨[(0, .lf (.hd 0 0 none)), (1, I a1), (65536, .lf (.hd 0 0 none))], [ar 0 (.int .i64) a0 .dp]⟩) (φ := True ∧ True) (by kernel_rfl) ⟨trivial, trivial⟩ ?_
  refine VO.nil ?_
  show VW _ _ _ _ _ _ _
  refine VW.join (fun s => ∃ (x17 : Int) (x18 : (List Int)), s = ⟨[(1, I x17), (65536, .lf (.hd 0 0 none))], [ar 0 (.int .i64) x18 .dp]⟩ ∧ F18_j0 N x17 x18 = some r) ?_ ?_
  · refine VW.seq ?_
    refine VW.region ?_
    refine VO.seg T_ok .dp 1 [0, 1, 5, 65536] [0] (s' := ⟨[(0, .lf (.hd 0 0 none)), (1, I a1), (5, I (0 : Int)), (65536, .lf (.hd 0 0 none))], [ar 0 (.int .i64) a0 .dp]⟩) (φ := True ∧ True) (by kernel_rfl) ⟨trivial, trivial⟩ ?_
    refine VO.nil ?_
    show VW _ _ _ _ _ _ _
    refine VW.block ?_
    refine VW.loopL (fun k s => ∃ (x24 : (List Int)) (x25 : Int) (x26 : Int), s = ⟨[(0, .lf (.hd 0 0 none)), (1, I x25), (5, I x26), (65536, .lf (.hd 0 0 none))], [ar 0 (.int .i64) x24 .dp]⟩ ∧ F18_l0 N k x24 x25 x26 = some r) N [.ren [0, 1, 5, 65536] [0]] (by kernel_rfl) ⟨a0, a1, (0 : Int), rfl, h⟩ ?_
    rintro k31 s ⟨x24, x25, x26, rfl, h⟩
    cases k31 with
    | zero => exact nomatch (show (none : Option ((List Int) × Int)) = some r from h)
    | succ k31 =>
      replace h : F18_l0_b N (F18_l0 N k31) x24 x25 x26 = some r := h
      unfold F18_l0_b at h
      refine VW.seq ?_
      refine VW.seq ?_
      refine VW.region ?_
      refine VO.seg T_ok .dp 4 [0, 1, 5, 9, 65536] [0] (s' := ⟨[(0, .lf (.hd 0 0 none)), (1, I x25), (5, I x26), (9, B (decide (x26 < (x24.length : Int)))), (65536, .lf (.hd 0 0 none))], [ar 0 (.int .i64) x24 .dp]⟩) (φ := True ∧ True ∧ True ∧ True ∧ True) (by kernel_rfl) ⟨trivial, trivial, trivial, trivial, trivial⟩ ?_
      refine VO.nil ?_
      show VW _ _ _ _ _ _ _
      refine VW.cond (b := (decide (x26 < (x24.length : Int)))) (by kernel_rfl) (fun hb => ?_) (fun hb => ?_)
      · replace h := cond_t h hb; clear hb
        refine VW.skip ?_
        show VW _ _ _ _ _ _ _
        refine VW.seq ?_
        refine VW.block ?_
        refine VW.seq ?_
        refine VW.region ?_
        obtain ⟨g34, h⟩ := gd_some h
        obtain ⟨g35, h⟩ := gd_some h
        refine VO.seg T_ok .dp 5 [0, 1, 5, 65536] [0] (s' := ⟨[(0, .lf (.hd 0 0 none)), (1, I x25), (5, I x26), (65536, .lf (.hd 0 0 none))], [ar 0 (.int .i64) (x24.set x26.toNat x25) .dp]⟩) (φ := True ∧ True ∧ True ∧ (InR x26 x24.length) ∧ (x26.toNat < x24.length) ∧ True) (by kernel_rfl) ⟨trivial, trivial, trivial, g34, g35, trivial⟩ ?_
        refine VO.nil ?_
        show VW _ _ _ _ _ _ _
        refine VW.region ?_
        refine VO.seg T_ok .dp 3 [0, 1, 5, 65536] [0] (s' := ⟨[(0, .lf (.hd 0 0 none)), (1, I (IntKind.i64.wrap (x25 + (1 : Int)))), (5, I x26), (65536, .lf (.hd 0 0 none))], [ar 0 (.int .i64) (x24.set x26.toNat x25) .dp]⟩) (φ := True ∧ True ∧ True ∧ True) (by kernel_rfl) ⟨trivial, trivial, trivial, trivial⟩ ?_
        refine VO.nil ?_
        show VW _ _ _ _ _ _ _
        refine VW.region ?_
        refine VO.seg T_ok .dp 3 [0, 1, 5, 65536] [0] (s' := ⟨[(0, .lf (.hd 0 0 none)), (1, I (IntKind.i64.wrap (x25 + (1 : Int)))), (5, I (IntKind.i64.wrap (x26 + (1 : Int)))), (65536, .lf (.hd 0 0 none))], [ar 0 (.int .i64) (x24.set x26.toNat x25) .dp]⟩) (φ := True ∧ True ∧ True ∧ True) (by kernel_rfl) ⟨trivial, trivial, trivial, trivial⟩ ?_
        refine VO.nil ?_
        exact around [.ren [0, 1, 5, 65536] [0]] (by kernel_rfl) ⟨(x24.set x26.toNat x25), (IntKind.i64.wrap (x25 + (1 : Int))), (IntKind.i64.wrap (x26 + (1 : Int))), rfl, h⟩
      · replace h := cond_f h hb; clear hb
        refine VW.exit ?_
        exact arrive [.ren [1, 65536] [0]] (by kernel_rfl) ⟨x25, x24, rfl, h⟩
  · rintro s ⟨x17, x18, rfl, h⟩
    unfold F18_j0 at h
    refine VW.seq ?_
    refine VW.region ?_
    refine VO.seg T_ok .dp 2 [4, 65536] [0] (s' := ⟨[(4, I x17), (65536, .lf (.hd 0 0 none))], [ar 0 (.int .i64) x18 .dp]⟩) (φ := True ∧ True ∧ True) (by kernel_rfl) ⟨trivial, trivial, trivial⟩ ?_
    refine VO.nil ?_
    show VW _ _ _ _ _ _ _
    replace h := Option.some.inj h
    subst h
    refine VW.ghl [.ren [4, 65536] [0]] (VW.ret ?_)
    exact ⟨[], by kernel_rfl, by kernel_rfl, by kernel_rfl⟩

/- loop.example/g00844/laws.heldIntS -/
def F19_j0 (N : Nat) (x16 : Int) : Option (Int) :=
  some x16
def F19_l0_b (N : Nat) (a0 : (List Int)) (nx28 : Int → Int → Option (Int)) (x22 : Int) (x23 : Int) : Option (Int) :=
  cond (decide (x23 < (a0.length : Int))) (gd (InR x23 a0.length) (cond ((a0.getD x23.toNat (Ty.dflt (.int .i64))) != x22) (some (-1 : Int)) (nx28 (IntKind.i64.wrap (x22 + (1 : Int))) (IntKind.i64.wrap (x23 + (1 : Int)))))) (F19_j0 N x22)
def F19_l0 (N : Nat) (a0 : (List Int)) : Nat → Int → Int → Option (Int) := loopF (F19_l0_b N a0) (fun _ _ => none)
theorem F19_l0_s (N : Nat) (a0 : (List Int)) {k : Nat} (hk : 0 < k) (x22 : Int) (x23 : Int) : F19_l0 N a0 k x22 x23 = F19_l0_b N a0 (F19_l0 N a0 (k - 1)) x22 x23 := by
  cases k with
  | zero => exact absurd hk (Nat.lt_irrefl 0)
  | succ m => rfl
def F19 (N : Nat) (a0 : (List Int)) (a1 : Int) : Option (Int) :=
  F19_l0 N a0 N a1 (0 : Int)
theorem ok19 (N : Nat) (a0 : (List Int)) (a1 : Int) {r : Int} (h : F19 N a0 a1 = some r) : Con Go.Proofs.Try.prog 19 [.lf (.v (.sl (.int .i64)) a0), I a1] [.lf (.v (.int .i64) r)] := by
  refine ⟨enters_of Go.Proofs.Try.func19 rfl (by decide), HC.intro [.lf (.v (.int .i64))] T_ok Go.Proofs.Try.func19 rfl (Nat.le_of_ble_eq_true rfl) (Nat.le_of_ble_eq_true rfl) fun w0 E0 => ?_⟩
  unfold F19 at h
  show VW _ _ _ _ _ (retQ _ _ _ _) _
  refine VW.seq ?_
  refine VW.region ?_
  refine VO.seg T_ok .dp 1 [0, 1] [] (s' := ⟨[(0, .lf (.v (.sl (.int .i64)) a0)), (1, I a1)], []⟩) (φ := True ∧ True) (by kernel_rfl) ⟨trivial, trivial⟩ ?_
  refine VO.nil ?_
  show VW _ _ _ _ _ _ _
  refine VW.join (fun s => ∃ (x16 : Int), s = ⟨[(1, I x16)], []⟩ ∧ F19_j0 N x16 = some r) ?_ ?_
  · refine VW.seq ?_
    refine VW.region ?_
    refine VO.seg T_ok .dp 1 [0, 1, 5] [] (s' := ⟨[(0, .lf (.v (.sl (.int .i64)) a0)), (1, I a1), (5, I (0 : Int))], []⟩) (φ := True ∧ True) (by kernel_rfl) ⟨trivial, trivial⟩ ?_
    refine VO.nil ?_
    show VW _ _ _ _ _ _ _
    refine VW.block ?_
    refine VW.loopL (fun k s => ∃ (x22 : Int) (x23 : Int), s = ⟨[(0, .lf (.v (.sl (.int .i64)) a0)), (1, I x22), (5, I x23)], []⟩ ∧ F19_l0 N a0 k x22 x23 = some r) N [.ren [0, 1, 5] []] (by kernel_rfl) ⟨a1, (0 : Int), rfl, h⟩ ?_
    rintro k28 s ⟨x22, x23, rfl, h⟩
    cases k28 with
    | zero => exact nomatch (show (none : Option (Int)) = some r from h)
    | succ k28 =>
      replace h : F19_l0_b N a0 (F19_l0 N a0 k28) x22 x23 = some r := h
      unfold F19_l0_b at h
      refine VW.seq ?_
      refine VW.seq ?_
      refine VW.region ?_
      refine VO.seg T_ok .dp 4 [0, 1, 5, 9] [] (s' := ⟨[(0, .lf (.v (.sl (.int .i64)) a0)), (1, I x22), (5, I x23), (9, B (decide (x23 < (a0.length : Int))))], []⟩) (φ := True ∧ True ∧ True ∧ True ∧ True) (by kernel_rfl) ⟨trivial, trivial, trivial, trivial, trivial⟩ ?_
      refine VO.nil ?_
      show VW _ _ _ _ _ _ _
      refine VW.cond (b := (decide (x23 < (a0.length : Int)))) (by kernel_rfl) (fun hb => ?_) (fun hb => ?_)
      · replace h := cond_t h hb; clear hb
        refine VW.skip ?_
        show VW _ _ _ _ _ _ _
        refine VW.seq ?_
        refine VW.block ?_
        refine VW.seq ?_
        refine VW.seq ?_
        refine VW.region ?_
        obtain ⟨g32, h⟩ := gd_some h
        refine VO.seg T_ok .dp 6 [0, 1, 5, 17] [] (s' := ⟨[(0, .lf (.v (.sl (.int .i64)) a0)), (1, I x22), (5, I x23), (17, B ((a0.getD x23.toNat (Ty.dflt (.int .i64))) != x22))], []⟩) (φ := True ∧ True ∧ (InR x23 a0.length) ∧ True ∧ True ∧ True ∧ True) (by kernel_rfl) ⟨trivial, trivial, g32, trivial, trivial, trivial, trivial⟩ ?_
        refine VO.nil ?_
        show VW _ _ _ _ _ _ _
        refine VW.cond (b := ((a0.getD x23.toNat (Ty.dflt (.int .i64))) != x22)) (by kernel_rfl) (fun hb => ?_) (fun hb => ?_)
        · replace h := cond_t h hb; clear hb
          refine VW.seq ?_
          refine VW.region ?_
          refine VO.seg T_ok .dp 1 [4] [] (s' := ⟨[(4, I (-1 : Int))], []⟩) (φ := True ∧ True) (by kernel_rfl) ⟨trivial, trivial⟩ ?_
          refine VO.nil ?_
          show VW _ _ _ _ _ _ _
          refine VW.ret ?_
          replace h := Option.some.inj h
          subst h
          exact retR [] (by kernel_rfl) rfl
        · replace h := cond_f h hb; clear hb
          refine VW.skip ?_
          show VW _ _ _ _ _ _ _
          refine VW.region ?_
          refine VO.seg T_ok .dp 3 [0, 1, 5] [] (s' := ⟨[(0, .lf (.v (.sl (.int .i64)) a0)), (1, I (IntKind.i64.wrap (x22 + (1 : Int)))), (5, I x23)], []⟩) (φ := True ∧ True ∧ True ∧ True) (by kernel_rfl) ⟨trivial, trivial, trivial, trivial⟩ ?_
          refine VO.nil ?_
          show VW _ _ _ _ _ _ _
          refine VW.region ?_
          refine VO.seg T_ok .dp 3 [0, 1, 5] [] (s' := ⟨[(0, .lf (.v (.sl (.int .i64)) a0)), (1, I (IntKind.i64.wrap (x22 + (1 : Int)))), (5, I (IntKind.i64.wrap (x23 + (1 : Int))))], []⟩) (φ := True ∧ True ∧ True ∧ True) (by kernel_rfl) ⟨trivial, trivial, trivial, trivial⟩ ?_
          refine VO.nil ?_
          exact around [.ren [0, 1, 5] []] (by kernel_rfl) ⟨(IntKind.i64.wrap (x22 + (1 : Int))), (IntKind.i64.wrap (x23 + (1 : Int))), rfl, h⟩
      · replace h := cond_f h hb; clear hb
        refine VW.exit ?_
        exact arrive [.ren [1] []] (by kernel_rfl) ⟨x22, rfl, h⟩
  · rintro s ⟨x16, rfl, h⟩
    unfold F19_j0 at h
    refine VW.seq ?_
    refine VW.region ?_
    refine VO.seg T_ok .dp 2 [4] [] (s' := ⟨[(4, I x16)], []⟩) (φ := True ∧ True ∧ True) (by kernel_rfl) ⟨trivial, trivial, trivial⟩ ?_
    refine VO.nil ?_
    show VW _ _ _ _ _ _ _
    refine VW.ret ?_
    replace h := Option.some.inj h
    subst h
    exact retR [] (by kernel_rfl) rfl

/- loop.example/g00844/laws.FnExactRulesIn -/
def F4 (N : Nat) (a0 : (List (Int × Int))) : Option (Bool) :=
  andO (F11 N a0 (1048576 : Int)) fun y1 => cond (decide (y1 < (0 : Int))) (some true) (andO (F13 N a0) fun y2 => andO (F12 N y2) fun y3 => andO (F13 N a0) fun y4 => andO (F14 N y4) fun y5 => andO (F15 N y5 y3) fun y7 => cond (!y7) (some false) (andO (F13 N a0) fun y10 => andO (F16 N y4 y10) fun y11 => cond (!y11) (some false) (andO (F17 N y4 (1 : Int)) fun y12 => cond (decide (y12.2 < (0 : Int))) (some false) (andO (F15 N y5 y3) fun y14 => cond (!y14) (some false) (andO (F18 N y5 (1 : Int)) fun y15 => andO (F19 N y15.1 (1 : Int)) fun y16 => cond (decide (y16 < (0 : Int))) (some false) (cond (y16 != y15.2) (some false) (andO (F13 N a0) fun y17 => andO (F14 N y17) fun y18 => andO (F15 N y18 y3) fun y20 => cond (!y20) (some false) (andO (F19 N y15.1 (1 : Int)) fun y21 => cond (decide (y21 < (0 : Int))) (some false) (cond (y21 != y15.2) (some false) (some true))))))))))
theorem ok4 (N : Nat) (a0 : (List (Int × Int))) {r : Bool} (h : F4 N a0 = some r) : Con Go.Proofs.Try.prog 4 [.lf (.v (.sl Y75) a0)] [.lf (.v .bool r)] := by
  refine ⟨enters_of Go.Proofs.Try.func4 rfl (by decide), HC.intro [.lf (.v .bool)] T_ok Go.Proofs.Try.func4 rfl (Nat.le_of_ble_eq_true rfl) (Nat.le_of_ble_eq_true rfl) fun w0 E0 => ?_⟩
  unfold F4 at h
  show VW _ _ _ _ _ (retQ _ _ _ _) _
  refine VW.seq ?_
  refine VW.region ?_
  refine VO.seg T_ok .dp 1 [0] [] (s' := ⟨[(0, .lf (.v (.sl Y75) a0))], []⟩) (φ := True ∧ True) (by kernel_rfl) ⟨trivial, trivial⟩ ?_
  refine VO.nil ?_
  show VW _ _ _ _ _ _ _
  refine VW.seq ?_
  refine VW.region ?_
  refine VO.seg T_ok .dp 1 [0, 3] [] (s' := ⟨[(0, .lf (.v (.sl Y75) a0)), (3, I (1048576 : Int))], []⟩) (φ := True ∧ True) (by kernel_rfl) ⟨trivial, trivial⟩ ?_
  refine VO.nil ?_
  show VW _ _ _ _ _ _ _
  refine VW.seq ?_
  refine VW.region ?_
  refine VO.seg T_ok .dp 2 [0, 11, 12] [] (s' := ⟨[(0, .lf (.v (.sl Y75) a0)), (11, .lf (.v (.sl Y75) a0)), (12, I (1048576 : Int))], []⟩) (φ := True ∧ True ∧ True) (by kernel_rfl) ⟨trivial, trivial, trivial⟩ ?_
  obtain ⟨y1, hy, h⟩ := andO_some h
  refine VO.call false [.t (.sl Y75), .t (.int .i64)] [] T_ok (d := some 13) (by kernel_rfl) (ok11 N _ _ hy) rfl ?_
  refine VO.seg T_ok .dp 1 [0, 3] [] (s' := ⟨[(0, .lf (.v (.sl Y75) a0)), (3, I y1)], []⟩) (φ := True ∧ True) (by kernel_rfl) ⟨trivial, trivial⟩ ?_
  refine VO.nil ?_
  show VW _ _ _ _ _ _ _
  refine VW.seq ?_
  refine VW.seq ?_
  refine VW.region ?_
  refine VO.seg T_ok .dp 2 [0, 15] [] (s' := ⟨[(0, .lf (.v (.sl Y75) a0)), (15, B (decide (y1 < (0 : Int))))], []⟩) (φ := True ∧ True ∧ True) (by kernel_rfl) ⟨trivial, trivial, trivial⟩ ?_
  refine VO.nil ?_
  show VW _ _ _ _ _ _ _
  refine VW.cond (b := (decide (y1 < (0 : Int)))) (by kernel_rfl) (fun hb => ?_) (fun hb => ?_)
  · replace h := cond_t h hb; clear hb
    refine VW.seq ?_
    refine VW.region ?_
    refine VO.seg T_ok .dp 1 [2] [] (s' := ⟨[(2, B true)], []⟩) (φ := True ∧ True) (by kernel_rfl) ⟨trivial, trivial⟩ ?_
    refine VO.nil ?_
    show VW _ _ _ _ _ _ _
    refine VW.ret ?_
    replace h := Option.some.inj h
    subst h
    exact retR [] (by kernel_rfl) rfl
  · replace h := cond_f h hb; clear hb
    refine VW.skip ?_
    show VW _ _ _ _ _ _ _
    refine VW.seq ?_
    refine VW.region ?_
    refine VO.seg T_ok .dp 1 [0, 16] [] (s' := ⟨[(0, .lf (.v (.sl Y75) a0)), (16, .lf (.v (.sl Y75) a0))], []⟩) (φ := True ∧ True) (by kernel_rfl) ⟨trivial, trivial⟩ ?_
    obtain ⟨y2, hy, h⟩ := andO_some h
    refine VO.call false [.t (.sl Y75)] [] T_ok (d := some 17) (by kernel_rfl) (ok13 N _ hy) rfl ?_
    obtain ⟨y3, hy, h⟩ := andO_some h
    refine VO.call true [.t (.sl Y75)] [] T_ok (d := some 18) (by kernel_rfl) (ok12 N _ hy) rfl ?_
    refine VO.seg T_ok .dp 1 [0, 4] [1] (s' := ⟨[(0, .lf (.v (.sl Y75) a0)), (4, .lf (.hd 0 0 none))], [ar 0 (.int .i64) y3 .dp]⟩) (φ := True ∧ True) (by kernel_rfl) ⟨trivial, trivial⟩ ?_
    refine VO.nil ?_
    show VW _ _ _ _ _ _ _
    refine VW.seq ?_
    refine VW.region ?_
    refine VO.seg T_ok .dp 1 [0, 4, 19] [0] (s' := ⟨[(0, .lf (.v (.sl Y75) a0)), (4, .lf (.hd 0 0 none)), (19, .lf (.v (.sl Y75) a0))], [ar 0 (.int .i64) y3 .dp]⟩) (φ := True ∧ True) (by kernel_rfl) ⟨trivial, trivial⟩ ?_
    obtain ⟨y4, hy, h⟩ := andO_some h
    refine VO.call false [.t (.sl Y75)] [] T_ok (d := some 20) (by kernel_rfl) (ok13 N _ hy) rfl ?_
    refine VO.seg T_ok .dp 1 [0, 4, 5] [0, 1] (s' := ⟨[(0, .lf (.v (.sl Y75) a0)), (4, .lf (.hd 0 0 none)), (5, .lf (.hd 1 0 none))], [ar 0 (.int .i64) y3 .dp, ar 0 Y75 y4 .dp]⟩) (φ := True ∧ True) (by kernel_rfl) ⟨trivial, trivial⟩ ?_
    refine VO.nil ?_
    show VW _ _ _ _ _ _ _
    refine VW.seq ?_
    refine VW.region ?_
    refine VO.seg T_ok .dp 1 [0, 4, 5, 21] [0, 1] (s' := ⟨[(0, .lf (.v (.sl Y75) a0)), (4, .lf (.hd 0 0 none)), (5, .lf (.hd 1 0 none)), (21, .lf (.hd 1 0 none))], [ar 0 (.int .i64) y3 .dp, ar 0 Y75 y4 .dp]⟩) (φ := True ∧ True) (by kernel_rfl) ⟨trivial, trivial⟩ ?_
    obtain ⟨y5, hy, h⟩ := andO_some h
    refine VO.call true [.t (.sl Y75)] [] T_ok (d := some 22) (by kernel_rfl) (ok14 N _ hy) rfl ?_
    refine VO.seg T_ok .dp 1 [0, 4, 5, 6] [0, 1, 2] (s' := ⟨[(0, .lf (.v (.sl Y75) a0)), (4, .lf (.hd 0 0 none)), (5, .lf (.hd 1 0 none)), (6, .lf (.hd 2 0 none))], [ar 0 (.int .i64) y3 .dp, ar 0 Y75 y4 .dp, ar 0 (.int .i64) y5 .dp]⟩) (φ := True ∧ True) (by kernel_rfl) ⟨trivial, trivial⟩ ?_
    refine VO.nil ?_
    show VW _ _ _ _ _ _ _
    refine VW.seq ?_
    refine VW.seq ?_
    refine VW.region ?_
    refine VO.seg T_ok .dp 2 [0, 4, 5, 6, 23, 24] [0, 1, 2] (s' := ⟨[(0, .lf (.v (.sl Y75) a0)), (4, .lf (.hd 0 0 none)), (5, .lf (.hd 1 0 none)), (6, .lf (.hd 2 0 none)), (23, .lf (.hd 2 0 none)), (24, .lf (.hd 0 0 none))], [ar 0 (.int .i64) y3 .dp, ar 0 Y75 y4 .dp, ar 0 (.int .i64) y5 .dp]⟩) (φ := True ∧ True ∧ True) (by kernel_rfl) ⟨trivial, trivial, trivial⟩ ?_
    obtain ⟨y7, hy, h⟩ := andO_some h
    refine VO.call true [.t (.sl (.int .i64)), .t (.sl (.int .i64))] [] T_ok (d := some 25) (by kernel_rfl) (ok15 N _ _ hy) rfl ?_
    refine VO.seg T_ok .dp 1 [0, 4, 5, 6, 26] [0, 1, 2] (s' := ⟨[(0, .lf (.v (.sl Y75) a0)), (4, .lf (.hd 0 0 none)), (5, .lf (.hd 1 0 none)), (6, .lf (.hd 2 0 none)), (26, B (!y7))], [ar 0 (.int .i64) y3 .dp, ar 0 Y75 y4 .dp, ar 0 (.int .i64) y5 .dp]⟩) (φ := True ∧ True) (by kernel_rfl) ⟨trivial, trivial⟩ ?_
    refine VO.nil ?_
    show VW _ _ _ _ _ _ _
    refine VW.cond (b := (!y7)) (by kernel_rfl) (fun hb => ?_) (fun hb => ?_)
    · replace h := cond_t h hb; clear hb
      refine VW.seq ?_
      refine VW.region ?_
      refine VO.seg T_ok .dp 1 [2] [] (s' := ⟨[(2, B false)], []⟩) (φ := True ∧ True) (by kernel_rfl) ⟨trivial, trivial⟩ ?_
      refine VO.nil ?_
      show VW _ _ _ _ _ _ _
      refine VW.ret ?_
      replace h := Option.some.inj h
      subst h
      exact retR [] (by kernel_rfl) rfl
    · replace h := cond_f h hb; clear hb
      refine VW.skip ?_
      show VW _ _ _ _ _ _ _
      refine VW.seq ?_
      refine VW.seq ?_
      refine VW.region ?_
      refine VO.seg T_ok .dp 2 [0, 4, 5, 6, 27, 28] [0, 1, 2] (s' := ⟨[(0, .lf (.v (.sl Y75) a0)), (4, .lf (.hd 0 0 none)), (5, .lf (.hd 1 0 none)), (6, .lf (.hd 2 0 none)), (27, .lf (.hd 1 0 none)), (28, .lf (.v (.sl Y75) a0))], [ar 0 (.int .i64) y3 .dp, ar 0 Y75 y4 .dp, ar 0 (.int .i64) y5 .dp]⟩) (φ := True ∧ True ∧ True) (by kernel_rfl) ⟨trivial, trivial, trivial⟩ ?_
      obtain ⟨y10, hy, h⟩ := andO_some h
      refine VO.call false [.t (.sl Y75)] [] T_ok (d := some 29) (by kernel_rfl) (ok13 N _ hy) rfl ?_
      obtain ⟨y11, hy, h⟩ := andO_some h
      refine VO.call true [.t (.sl Y75), .t (.sl Y75)] [] T_ok (d := some 30) (by kernel_rfl) (ok16 N _ _ hy) rfl ?_
      refine VO.seg T_ok .dp 1 [0, 4, 5, 6, 31] [0, 1, 2] (s' := ⟨[(0, .lf (.v (.sl Y75) a0)), (4, .lf (.hd 0 0 none)), (5, .lf (.hd 1 0 none)), (6, .lf (.hd 2 0 none)), (31, B (!y11))], [ar 0 (.int .i64) y3 .dp, ar 0 Y75 y4 .dp, ar 0 (.int .i64) y5 .dp]⟩) (φ := True ∧ True) (by kernel_rfl) ⟨trivial, trivial⟩ ?_
      refine VO.nil ?_
      show VW _ _ _ _ _ _ _
      refine VW.cond (b := (!y11)) (by kernel_rfl) (fun hb => ?_) (fun hb => ?_)
      · replace h := cond_t h hb; clear hb
        refine VW.seq ?_
        refine VW.region ?_
        refine VO.seg T_ok .dp 1 [2] [] (s' := ⟨[(2, B false)], []⟩) (φ := True ∧ True) (by kernel_rfl) ⟨trivial, trivial⟩ ?_
        refine VO.nil ?_
        show VW _ _ _ _ _ _ _
        refine VW.ret ?_
        replace h := Option.some.inj h
        subst h
        exact retR [] (by kernel_rfl) rfl
      · replace h := cond_f h hb; clear hb
        refine VW.skip ?_
        show VW _ _ _ _ _ _ _
        refine VW.seq ?_
        refine VW.region ?_
        refine VO.seg T_ok .dp 1 [0, 4, 5, 6, 7] [0, 1, 2] (s' := ⟨[(0, .lf (.v (.sl Y75) a0)), (4, .lf (.hd 0 0 none)), (5, .lf (.hd 1 0 none)), (6, .lf (.hd 2 0 none)), (7, I (1 : Int))], [ar 0 (.int .i64) y3 .dp, ar 0 Y75 y4 .dp, ar 0 (.int .i64) y5 .dp]⟩) (φ := True ∧ True) (by kernel_rfl) ⟨trivial, trivial⟩ ?_
        refine VO.nil ?_
        show VW _ _ _ _ _ _ _
        refine VW.seq ?_
        refine VW.region ?_
        refine VO.seg T_ok .dp 2 [0, 4, 6, 32, 33] [0, 2, 1] (s' := ⟨[(0, .lf (.v (.sl Y75) a0)), (4, .lf (.hd 0 0 none)), (6, .lf (.hd 1 0 none)), (32, .lf (.hd 2 0 none)), (33, I (1 : Int))], [ar 0 (.int .i64) y3 .dp, ar 0 (.int .i64) y5 .dp, ar 0 Y75 y4 .dp]⟩) (φ := True ∧ True ∧ True) (by kernel_rfl) ⟨trivial, trivial, trivial⟩ ?_
        obtain ⟨y12, hy, h⟩ := andO_some h
        refine VO.callM [2] [.t (.sl Y75), .t (.int .i64)] (d := some 34) (by kernel_rfl) (by kernel_rfl) (ok17 N _ _ hy) (by kernel_rfl) ?_
        refine VO.seg T_ok .dp 1 [0, 4, 6, 7] [0, 1] (s' := ⟨[(0, .lf (.v (.sl Y75) a0)), (4, .lf (.hd 0 0 none)), (6, .lf (.hd 1 0 none)), (7, I y12.2)], [ar 0 (.int .i64) y3 .dp, ar 0 (.int .i64) y5 .dp]⟩) (φ := True ∧ True) (by kernel_rfl) ⟨trivial, trivial⟩ ?_
        refine VO.nil ?_
        show VW _ _ _ _ _ _ _
        refine VW.seq ?_
        refine VW.seq ?_
        refine VW.region ?_
        refine VO.seg T_ok .dp 3 [0, 4, 6, 37] [0, 1] (s' := ⟨[(0, .lf (.v (.sl Y75) a0)), (4, .lf (.hd 0 0 none)), (6, .lf (.hd 1 0 none)), (37, B (decide (y12.2 < (0 : Int))))], [ar 0 (.int .i64) y3 .dp, ar 0 (.int .i64) y5 .dp]⟩) (φ := True ∧ True ∧ True ∧ True) (by kernel_rfl) ⟨trivial, trivial, trivial, trivial⟩ ?_
        refine VO.splitB 37 (b := (decide (y12.2 < (0 : Int)))) (by kernel_rfl) (fun hb => ?_) (fun hb => ?_)
        · replace h := cond_t h hb; clear hb
          refine VO.seg T_ok .dp 5 [0, 4, 6, 42] [0, 1] (s' := ⟨[(0, .lf (.v (.sl Y75) a0)), (4, .lf (.hd 0 0 none)), (6, .lf (.hd 1 0 none)), (42, B true)], [ar 0 (.int .i64) y3 .dp, ar 0 (.int .i64) y5 .dp]⟩) (φ := True ∧ True ∧ True ∧ True ∧ True ∧ True) (by kernel_rfl) ⟨trivial, trivial, trivial, trivial, trivial, trivial⟩ ?_
          refine VO.nil ?_
          show VW _ _ _ _ _ _ _
          refine VW.cond (b := true) (by kernel_rfl) (fun _ => ?_) (fun h' => nomatch h')
          refine VW.seq ?_
          refine VW.region ?_
          refine VO.seg T_ok .dp 1 [2] [] (s' := ⟨[(2, B false)], []⟩) (φ := True ∧ True) (by kernel_rfl) ⟨trivial, trivial⟩ ?_
          refine VO.nil ?_
          show VW _ _ _ _ _ _ _
          refine VW.ret ?_
          replace h := Option.some.inj h
          subst h
          exact retR [] (by kernel_rfl) rfl
        · replace h := cond_f h hb; clear hb
          refine VO.seg T_ok .dp 2 [0, 4, 6, 37, 38, 39] [0, 1] (s' := ⟨[(0, .lf (.v (.sl Y75) a0)), (4, .lf (.hd 0 0 none)), (6, .lf (.hd 1 0 none)), (37, B false), (38, .lf (.hd 1 0 none)), (39, .lf (.hd 0 0 none))], [ar 0 (.int .i64) y3 .dp, ar 0 (.int .i64) y5 .dp]⟩) (φ := True ∧ True ∧ True) (by kernel_rfl) ⟨trivial, trivial, trivial⟩ ?_
          refine VO.on (j := 2) (want := false) (d := 37) (b := false) rfl rfl rfl (by kernel_rfl) rfl ?_
          obtain ⟨y14, hy, h⟩ := andO_some h
          refine VO.call true [.t (.sl (.int .i64)), .t (.sl (.int .i64))] [] T_ok (d := some 40) (by kernel_rfl) (ok15 N _ _ hy) rfl ?_
          refine VO.seg T_ok .dp 2 [0, 4, 6, 42] [0, 1] (s' := ⟨[(0, .lf (.v (.sl Y75) a0)), (4, .lf (.hd 0 0 none)), (6, .lf (.hd 1 0 none)), (42, B (!y14))], [ar 0 (.int .i64) y3 .dp, ar 0 (.int .i64) y5 .dp]⟩) (φ := True ∧ True ∧ True) (by kernel_rfl) ⟨trivial, trivial, trivial⟩ ?_
          refine VO.nil ?_
          show VW _ _ _ _ _ _ _
          refine VW.cond (b := (!y14)) (by kernel_rfl) (fun hb => ?_) (fun hb => ?_)
          · replace h := cond_t h hb; clear hb
            refine VW.seq ?_
            refine VW.region ?_
            refine VO.seg T_ok .dp 1 [2] [] (s' := ⟨[(2, B false)], []⟩) (φ := True ∧ True) (by kernel_rfl) ⟨trivial, trivial⟩ ?_
            refine VO.nil ?_
            show VW _ _ _ _ _ _ _
            refine VW.ret ?_
            replace h := Option.some.inj h
            subst h
            exact retR [] (by kernel_rfl) rfl
          · replace h := cond_f h hb; clear hb
            refine VW.skip ?_
            show VW _ _ _ _ _ _ _
            refine VW.seq ?_
            refine VW.region ?_
            refine VO.seg T_ok .dp 1 [0, 4, 6, 8] [0, 1] (s' := ⟨[(0, .lf (.v (.sl Y75) a0)), (4, .lf (.hd 0 0 none)), (6, .lf (.hd 1 0 none)), (8, I (1 : Int))], [ar 0 (.int .i64) y3 .dp, ar 0 (.int .i64) y5 .dp]⟩) (φ := True ∧ True) (by kernel_rfl) ⟨trivial, trivial⟩ ?_
            refine VO.nil ?_
            show VW _ _ _ _ _ _ _
            refine VW.seq ?_
            refine VW.region ?_
            refine VO.seg T_ok .dp 2 [0, 4, 6, 43, 44] [0, 1] (s' := ⟨[(0, .lf (.v (.sl Y75) a0)), (4, .lf (.hd 0 0 none)), (6, .lf (.hd 1 0 none)), (43, .lf (.hd 1 0 none)), (44, I (1 : Int))], [ar 0 (.int .i64) y3 .dp, ar 0 (.int .i64) y5 .dp]⟩) (φ := True ∧ True ∧ True) (by kernel_rfl) ⟨trivial, trivial, trivial⟩ ?_
            obtain ⟨y15, hy, h⟩ := andO_some h
            refine VO.callM [1] [.t (.sl (.int .i64)), .t (.int .i64)] (d := some 45) (by kernel_rfl) (by kernel_rfl) (ok18 N _ _ hy) (by kernel_rfl) ?_
            refine VO.seg T_ok .dp 1 [0, 4, 6, 8] [0, 1] (s' := ⟨[(0, .lf (.v (.sl Y75) a0)), (4, .lf (.hd 0 0 none)), (6, .lf (.hd 1 0 none)), (8, I y15.2)], [ar 0 (.int .i64) y3 .dp, ar 0 (.int .i64) y15.1 .dp]⟩) (φ := True ∧ True) (by kernel_rfl) ⟨trivial, trivial⟩ ?_
            refine VO.nil ?_
            show VW _ _ _ _ _ _ _
            refine VW.seq ?_
            refine VW.region ?_
            refine VO.seg T_ok .dp 1 [0, 4, 6, 8, 9] [0, 1] (s' := ⟨[(0, .lf (.v (.sl Y75) a0)), (4, .lf (.hd 0 0 none)), (6, .lf (.hd 1 0 none)), (8, I y15.2), (9, I (1 : Int))], [ar 0 (.int .i64) y3 .dp, ar 0 (.int .i64) y15.1 .dp]⟩) (φ := True ∧ True) (by kernel_rfl) ⟨trivial, trivial⟩ ?_
            refine VO.nil ?_
            show VW _ _ _ _ _ _ _
            refine VW.seq ?_
            refine VW.region ?_
            refine VO.seg T_ok .dp 2 [0, 4, 6, 8, 46, 47] [0, 1] (s' := ⟨[(0, .lf (.v (.sl Y75) a0)), (4, .lf (.hd 0 0 none)), (6, .lf (.hd 1 0 none)), (8, I y15.2), (46, .lf (.hd 1 0 none)), (47, I (1 : Int))], [ar 0 (.int .i64) y3 .dp, ar 0 (.int .i64) y15.1 .dp]⟩) (φ := True ∧ True ∧ True) (by kernel_rfl) ⟨trivial, trivial, trivial⟩ ?_
            obtain ⟨y16, hy, h⟩ := andO_some h
            refine VO.call true [.t (.sl (.int .i64)), .t (.int .i64)] [] T_ok (d := some 48) (by kernel_rfl) (ok19 N _ _ hy) rfl ?_
            refine VO.seg T_ok .dp 1 [0, 4, 6, 8, 9] [0, 1] (s' := ⟨[(0, .lf (.v (.sl Y75) a0)), (4, .lf (.hd 0 0 none)), (6, .lf (.hd 1 0 none)), (8, I y15.2), (9, I y16)], [ar 0 (.int .i64) y3 .dp, ar 0 (.int .i64) y15.1 .dp]⟩) (φ := True ∧ True) (by kernel_rfl) ⟨trivial, trivial⟩ ?_
            refine VO.nil ?_
            show VW _ _ _ _ _ _ _
            refine VW.seq ?_
            refine VW.seq ?_
            refine VW.region ?_
            refine VO.seg T_ok .dp 2 [0, 4, 6, 8, 9, 50] [0, 1] (s' := ⟨[(0, .lf (.v (.sl Y75) a0)), (4, .lf (.hd 0 0 none)), (6, .lf (.hd 1 0 none)), (8, I y15.2), (9, I y16), (50, B (decide (y16 < (0 : Int))))], [ar 0 (.int .i64) y3 .dp, ar 0 (.int .i64) y15.1 .dp]⟩) (φ := True ∧ True ∧ True) (by kernel_rfl) ⟨trivial, trivial, trivial⟩ ?_
            refine VO.nil ?_
            show VW _ _ _ _ _ _ _
            refine VW.cond (b := (decide (y16 < (0 : Int)))) (by kernel_rfl) (fun hb => ?_) (fun hb => ?_)
            · replace h := cond_t h hb; clear hb
              refine VW.seq ?_
              refine VW.region ?_
              refine VO.seg T_ok .dp 1 [2] [] (s' := ⟨[(2, B false)], []⟩) (φ := True ∧ True) (by kernel_rfl) ⟨trivial, trivial⟩ ?_
              refine VO.nil ?_
              show VW _ _ _ _ _ _ _
              refine VW.ret ?_
              replace h := Option.some.inj h
              subst h
              exact retR [] (by kernel_rfl) rfl
            · replace h := cond_f h hb; clear hb
              refine VW.skip ?_
              show VW _ _ _ _ _ _ _
              refine VW.seq ?_
              refine VW.seq ?_
              refine VW.region ?_
              refine VO.seg T_ok .dp 3 [0, 4, 6, 8, 53] [0, 1] (s' := ⟨[(0, .lf (.v (.sl Y75) a0)), (4, .lf (.hd 0 0 none)), (6, .lf (.hd 1 0 none)), (8, I y15.2), (53, B (y16 != y15.2))], [ar 0 (.int .i64) y3 .dp, ar 0 (.int .i64) y15.1 .dp]⟩) (φ := True ∧ True ∧ True ∧ True) (by kernel_rfl) ⟨trivial, trivial, trivial, trivial⟩ ?_
              refine VO.nil ?_
              show VW _ _ _ _ _ _ _
              refine VW.cond (b := (y16 != y15.2)) (by kernel_rfl) (fun hb => ?_) (fun hb => ?_)
              · replace h := cond_t h hb; clear hb
                refine VW.seq ?_
                refine VW.region ?_
                refine VO.seg T_ok .dp 1 [2] [] (s' := ⟨[(2, B false)], []⟩) (φ := True ∧ True) (by kernel_rfl) ⟨trivial, trivial⟩ ?_
                refine VO.nil ?_
                show VW _ _ _ _ _ _ _
                refine VW.ret ?_
                replace h := Option.some.inj h
                subst h
                exact retR [] (by kernel_rfl) rfl
              · replace h := cond_f h hb; clear hb
                refine VW.skip ?_
                show VW _ _ _ _ _ _ _
                refine VW.seq ?_
                refine VW.region ?_
                refine VO.seg T_ok .dp 1 [4, 6, 8, 54] [0, 1] (s' := ⟨[(4, .lf (.hd 0 0 none)), (6, .lf (.hd 1 0 none)), (8, I y15.2), (54, .lf (.v (.sl Y75) a0))], [ar 0 (.int .i64) y3 .dp, ar 0 (.int .i64) y15.1 .dp]⟩) (φ := True ∧ True) (by kernel_rfl) ⟨trivial, trivial⟩ ?_
                obtain ⟨y17, hy, h⟩ := andO_some h
                refine VO.call false [.t (.sl Y75)] [] T_ok (d := some 55) (by kernel_rfl) (ok13 N _ hy) rfl ?_
                obtain ⟨y18, hy, h⟩ := andO_some h
                refine VO.call true [.t (.sl Y75)] [] T_ok (d := some 56) (by kernel_rfl) (ok14 N _ hy) rfl ?_
                refine VO.seg T_ok .dp 1 [4, 6, 8, 10] [0, 1, 3] (s' := ⟨[(4, .lf (.hd 0 0 none)), (6, .lf (.hd 1 0 none)), (8, I y15.2), (10, .lf (.hd 2 0 none))], [ar 0 (.int .i64) y3 .dp, ar 0 (.int .i64) y15.1 .dp, ar 0 (.int .i64) y18 .dp]⟩) (φ := True ∧ True) (by kernel_rfl) ⟨trivial, trivial⟩ ?_
                refine VO.nil ?_
                show VW _ _ _ _ _ _ _
                refine VW.seq ?_
                refine VW.seq ?_
                refine VW.region ?_
                refine VO.seg T_ok .dp 2 [6, 8, 57, 58] [1, 2, 0] (s' := ⟨[(6, .lf (.hd 0 0 none)), (8, I y15.2), (57, .lf (.hd 1 0 none)), (58, .lf (.hd 2 0 none))], [ar 0 (.int .i64) y15.1 .dp, ar 0 (.int .i64) y18 .dp, ar 0 (.int .i64) y3 .dp]⟩) (φ := True ∧ True ∧ True) (by kernel_rfl) ⟨trivial, trivial, trivial⟩ ?_
                obtain ⟨y20, hy, h⟩ := andO_some h
                refine VO.call true [.t (.sl (.int .i64)), .t (.sl (.int .i64))] [] T_ok (d := some 59) (by kernel_rfl) (ok15 N _ _ hy) rfl ?_
                refine VO.seg T_ok .dp 1 [6, 8, 60] [0] (s' := ⟨[(6, .lf (.hd 0 0 none)), (8, I y15.2), (60, B (!y20))], [ar 0 (.int .i64) y15.1 .dp]⟩) (φ := True ∧ True) (by kernel_rfl) ⟨trivial, trivial⟩ ?_
                refine VO.nil ?_
                show VW _ _ _ _ _ _ _
                refine VW.cond (b := (!y20)) (by kernel_rfl) (fun hb => ?_) (fun hb => ?_)
                · replace h := cond_t h hb; clear hb
                  refine VW.seq ?_
                  refine VW.region ?_
                  refine VO.seg T_ok .dp 1 [2] [] (s' := ⟨[(2, B false)], []⟩) (φ := True ∧ True) (by kernel_rfl) ⟨trivial, trivial⟩ ?_
                  refine VO.nil ?_
                  show VW _ _ _ _ _ _ _
                  refine VW.ret ?_
                  replace h := Option.some.inj h
                  subst h
                  exact retR [] (by kernel_rfl) rfl
                · replace h := cond_f h hb; clear hb
                  refine VW.skip ?_
                  show VW _ _ _ _ _ _ _
                  refine VW.seq ?_
                  refine VW.region ?_
                  refine VO.seg T_ok .dp 1 [6, 8, 9] [0] (s' := ⟨[(6, .lf (.hd 0 0 none)), (8, I y15.2), (9, I (1 : Int))], [ar 0 (.int .i64) y15.1 .dp]⟩) (φ := True ∧ True) (by kernel_rfl) ⟨trivial, trivial⟩ ?_
                  refine VO.nil ?_
                  show VW _ _ _ _ _ _ _
                  refine VW.seq ?_
                  refine VW.region ?_
                  refine VO.seg T_ok .dp 2 [8, 61, 62] [0] (s' := ⟨[(8, I y15.2), (61, .lf (.hd 0 0 none)), (62, I (1 : Int))], [ar 0 (.int .i64) y15.1 .dp]⟩) (φ := True ∧ True ∧ True) (by kernel_rfl) ⟨trivial, trivial, trivial⟩ ?_
                  obtain ⟨y21, hy, h⟩ := andO_some h
                  refine VO.call true [.t (.sl (.int .i64)), .t (.int .i64)] [] T_ok (d := some 63) (by kernel_rfl) (ok19 N _ _ hy) rfl ?_
                  refine VO.seg T_ok .dp 1 [8, 9] [] (s' := ⟨[(8, I y15.2), (9, I y21)], []⟩) (φ := True ∧ True) (by kernel_rfl) ⟨trivial, trivial⟩ ?_
                  refine VO.nil ?_
                  show VW _ _ _ _ _ _ _
                  refine VW.seq ?_
                  refine VW.seq ?_
                  refine VW.region ?_
                  refine VO.seg T_ok .dp 2 [8, 9, 65] [] (s' := ⟨[(8, I y15.2), (9, I y21), (65, B (decide (y21 < (0 : Int))))], []⟩) (φ := True ∧ True ∧ True) (by kernel_rfl) ⟨trivial, trivial, trivial⟩ ?_
                  refine VO.nil ?_
                  show VW _ _ _ _ _ _ _
                  refine VW.cond (b := (decide (y21 < (0 : Int)))) (by kernel_rfl) (fun hb => ?_) (fun hb => ?_)
                  · replace h := cond_t h hb; clear hb
                    refine VW.seq ?_
                    refine VW.region ?_
                    refine VO.seg T_ok .dp 1 [2] [] (s' := ⟨[(2, B false)], []⟩) (φ := True ∧ True) (by kernel_rfl) ⟨trivial, trivial⟩ ?_
                    refine VO.nil ?_
                    show VW _ _ _ _ _ _ _
                    refine VW.ret ?_
                    replace h := Option.some.inj h
                    subst h
                    exact retR [] (by kernel_rfl) rfl
                  · replace h := cond_f h hb; clear hb
                    refine VW.skip ?_
                    show VW _ _ _ _ _ _ _
                    refine VW.seq ?_
                    refine VW.seq ?_
                    refine VW.region ?_
                    refine VO.seg T_ok .dp 3 [68] [] (s' := ⟨[(68, B (y21 != y15.2))], []⟩) (φ := True ∧ True ∧ True ∧ True) (by kernel_rfl) ⟨trivial, trivial, trivial, trivial⟩ ?_
                    refine VO.nil ?_
                    show VW _ _ _ _ _ _ _
                    refine VW.cond (b := (y21 != y15.2)) (by kernel_rfl) (fun hb => ?_) (fun hb => ?_)
                    · replace h := cond_t h hb; clear hb
                      refine VW.seq ?_
                      refine VW.region ?_
                      refine VO.seg T_ok .dp 1 [2] [] (s' := ⟨[(2, B false)], []⟩) (φ := True ∧ True) (by kernel_rfl) ⟨trivial, trivial⟩ ?_
                      refine VO.nil ?_
                      show VW _ _ _ _ _ _ _
                      refine VW.ret ?_
                      replace h := Option.some.inj h
                      subst h
                      exact retR [] (by kernel_rfl) rfl
                    · replace h := cond_f h hb; clear hb
                      refine VW.skip ?_
                      show VW _ _ _ _ _ _ _
                      refine VW.seq ?_
                      refine VW.region ?_
                      refine VO.seg T_ok .dp 1 [2] [] (s' := ⟨[(2, B true)], []⟩) (φ := True ∧ True) (by kernel_rfl) ⟨trivial, trivial⟩ ?_
                      refine VO.nil ?_
                      show VW _ _ _ _ _ _ _
                      refine VW.ret ?_
                      replace h := Option.some.inj h
                      subst h
                      exact retR [] (by kernel_rfl) rfl

end Go.Proofs.Ytdihadbgbjhebaa.Vc
