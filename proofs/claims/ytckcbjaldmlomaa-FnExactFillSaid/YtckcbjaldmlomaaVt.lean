/- What functions of the program compute, and that they do. -/
import Derived.Test.YtckcbjaldmlomaaVt1
namespace Go.Proofs.Ytckcbjaldmlomaa.Vc
open Go Go.RowKit
set_option linter.unusedVariables false
set_option maxRecDepth 100000
set_option maxHeartbeats 4000000
/- loop.example/g00844/laws.markIntS -/
def F14_j0 (N : Nat) (x17 : Int) (x18 : (List Int)) : Option ((List Int) × Int) :=
  some (x18, x17)
def F14_l0_b (N : Nat) (nx31 : (List Int) → Int → Int → Option ((List Int) × Int)) (x24 : (List Int)) (x25 : Int) (x26 : Int) : Option ((List Int) × Int) :=
  cond (decide (x26 < (x24.length : Int))) (gd (InR x26 x24.length) (gd (x26.toNat < x24.length) (nx31 (x24.set x26.toNat x25) (IntKind.i64.wrap (x25 + (1 : Int))) (IntKind.i64.wrap (x26 + (1 : Int)))))) (F14_j0 N x25 x24)
def F14_l0 (N : Nat) : Nat → (List Int) → Int → Int → Option ((List Int) × Int) := loopF (F14_l0_b N) (fun _ _ _ => none)
theorem F14_l0_s (N : Nat) {k : Nat} (hk : 0 < k) (x24 : (List Int)) (x25 : Int) (x26 : Int) : F14_l0 N k x24 x25 x26 = F14_l0_b N (F14_l0 N (k - 1)) x24 x25 x26 := by
  cases k with
  | zero => exact absurd hk (Nat.lt_irrefl 0)
  | succ m => rfl
def F14 (N : Nat) (a0 : (List Int)) (a1 : Int) : Option ((List Int) × Int) :=
  F14_l0 N N a0 a1 (0 : Int)
theorem ok14 (N : Nat) (a0 : (List Int)) (a1 : Int) {r : (List Int) × Int} (h : F14 N a0 a1 = some r) : ConM Go.Proofs.Try.prog 14 [ar 0 (.int .i64) a0 .dp] [.lf (.hd 0 0 none), I a1] [.lf (.v (.int .i64) r.2)] [ar 0 (.int .i64) r.1 .dp] := by
  refine ⟨enters_of Go.Proofs.Try.func14 rfl (by decide), HM.intro [.lf (.v (.int .i64))] T_ok Go.Proofs.Try.func14 rfl (Nat.le_of_ble_eq_true rfl) (Nat.le_of_ble_eq_true rfl) fun w0 E0 => ?_⟩
  unfold F14 at h
  show VW _ _ _ _ _ (retM _ _ _ _ _) _
  refine VW.seq ?_
  refine VW.region ?_
  refine VO.seg T_ok .dp 1 [0, 1, 65536] [0] (s' := ⟨[(0, .lf (.hd 0 0 none)), (1, I a1), (65536, .lf (.hd 0 0 none))], [ar 0 (.int .i64) a0 .dp]⟩) (φ := True ∧ True) (by kernel_rfl) ⟨trivial, trivial⟩ ?_
  refine VO.nil ?_
  show VW _ _ _ _ _ _ _
  refine VW.join (fun s => ∃ (x17 : Int) (x18 : (List Int)), s = ⟨[(1, I x17), (65536, .lf (.hd 0 0 none))], [ar 0 (.int .i64) x18 .dp]⟩ ∧ F14_j0 N x17 x18 = some r) ?_ ?_
  · refine VW.seq ?_
    refine VW.region ?_
    refine VO.seg T_ok .dp 1 [0, 1, 5, 65536] [0] (s' := ⟨[(0, .lf (.hd 0 0 none)), (1, I a1), (5, I (0 : Int)), (65536, .lf (.hd 0 0 none))], [ar 0 (.int .i64) a0 .dp]⟩) (φ := True ∧ True) (by kernel_rfl) ⟨trivial, trivial⟩ ?_
    refine VO.nil ?_
    show VW _ _ _ _ _ _ _
    refine VW.block ?_
    refine VW.loopL (fun k s => ∃ (x24 : (List Int)) (x25 : Int) (x26 : Int), s = ⟨[(0, .lf (.hd 0 0 none)), (1, I x25), (5, I x26), (65536, .lf (.hd 0 0 none))], [ar 0 (.int .i64) x24 .dp]⟩ ∧ F14_l0 N k x24 x25 x26 = some r) N [.ren [0, 1, 5, 65536] [0]] (by kernel_rfl) ⟨a0, a1, (0 : Int), rfl, h⟩ ?_
    rintro k31 s ⟨x24, x25, x26, rfl, h⟩
    cases k31 with
    | zero => exact nomatch (show (none : Option ((List Int) × Int)) = some r from h)
    | succ k31 =>
      replace h : F14_l0_b N (F14_l0 N k31) x24 x25 x26 = some r := h
      unfold F14_l0_b at h
      refine VW.seq ?_
      refine VW.seq ?_
      refine VW.region ?_
      refine VO.seg T_ok .dp 4 [0, 1, 5, 9, 65536] [0] (s' := ⟨[(0, .lf (.hd 0 0 none)), (1, I x25), (5, I x26), (9, B (decide (x26 < (x24.length : Int)))), (65536, .lf (.hd 0 0 none))], [ar 0 (.int .i64) x24 .dp]⟩) (φ := True ∧ True ∧ True ∧ True ∧ True) (by kernel_rfl) ⟨trivial, trivial, trivial, trivial, trivial⟩ ?_
      refine VO.nil ?_
      show VW _ _ _ _ _ _ _
      refine VW.cond (b := (decide (x26 < (x24.length : Int)))) (by kernel_rfl) (fun hb => ?_) (fun hb => ?_)
      · replace h := cond_t h hb; clear hb
        refine VW.skip ?_
        show VW _ _ _ _ _ _ _
        refine VW.seq ?_
        refine VW.block ?_
        refine VW.seq ?_
        refine VW.region ?_
        obtain ⟨g34, h⟩ := gd_some h
        obtain ⟨g35, h⟩ := gd_some h
        refine VO.seg T_ok .dp 5 [0, 1, 5, 65536] [0] (s' := ⟨[(0, .lf (.hd 0 0 none)), (1, I x25), (5, I x26), (65536, .lf (.hd 0 0 none))], [ar 0 (.int .i64) (x24.set x26.toNat x25) .dp]⟩) (φ := True ∧ True ∧ True ∧ (InR x26 x24.length) ∧ (x26.toNat < x24.length) ∧ True) (by kernel_rfl) ⟨trivial, trivial, trivial, g34, g35, trivial⟩ ?_
        refine VO.nil ?_
        show VW _ _ _ _ _ _ _
        refine VW.region ?_
        refine VO.seg T_ok .dp 3 [0, 1, 5, 65536] [0] (s' := ⟨[(0, .lf (.hd 0 0 none)), (1, I (IntKind.i64.wrap (x25 + (1 : Int)))), (5, I x26), (65536, .lf (.hd 0 0 none))], [ar 0 (.int .i64) (x24.set x26.toNat x25) .dp]⟩) (φ := True ∧ True ∧ True ∧ True) (by kernel_rfl) ⟨trivial, trivial, trivial, trivial⟩ ?_
        refine VO.nil ?_
        show VW _ _ _ _ _ _ _
        refine VW.region ?_
        refine VO.seg T_ok .dp 3 [0, 1, 5, 65536] [0] (s' := ⟨[(0, .lf (.hd 0 0 none)), (1, I (IntKind.i64.wrap (x25 + (1 : Int)))), (5, I (IntKind.i64.wrap (x26 + (1 : Int)))), (65536, .lf (.hd 0 0 none))], [ar 0 (.int .i64) (x24.set x26.toNat x25) .dp]⟩) (φ := True ∧ True ∧ True ∧ True) (by kernel_rfl) ⟨trivial, trivial, trivial, trivial⟩ ?_
        refine VO.nil ?_
        exact around [.ren [0, 1, 5, 65536] [0]] (by kernel_rfl) ⟨(x24.set x26.toNat x25), (IntKind.i64.wrap (x25 + (1 : Int))), (IntKind.i64.wrap (x26 + (1 : Int))), rfl, h⟩
      · replace h := cond_f h hb; clear hb
        refine VW.exit ?_
        exact arrive [.ren [1, 65536] [0]] (by kernel_rfl) ⟨x25, x24, rfl, h⟩
  · rintro s ⟨x17, x18, rfl, h⟩
    unfold F14_j0 at h
    refine VW.seq ?_
    refine VW.region ?_
    refine VO.seg T_ok .dp 2 [4, 65536] [0] (s' := ⟨[(4, I x17), (65536, .lf (.hd 0 0 none))], [ar 0 (.int .i64) x18 .dp]⟩) (φ := True ∧ True ∧ True) (by kernel_rfl) ⟨trivial, trivial, trivial⟩ ?_
    refine VO.nil ?_
    show VW _ _ _ _ _ _ _
    replace h := Option.some.inj h
    subst h
    refine VW.ghl [.ren [4, 65536] [0]] (VW.ret ?_)
    exact ⟨[], by kernel_rfl, by kernel_rfl, by kernel_rfl⟩

/- loop.example/g00844/laws.markText -/
def F28_j0 (N : Nat) (x7 : ByteArray) : Option (ByteArray) :=
  gd ((⟨#[109]⟩ : ByteArray).size + x7.size ≤ 9223372036854775807) (some ((⟨#[109]⟩ : ByteArray) ++ x7))
def F28_l0_b (N : Nat) (nx14 : Int → ByteArray → Option (ByteArray)) (x11 : Int) (x12 : ByteArray) : Option (ByteArray) :=
  cond (decide (x11 > (0 : Int))) (gd ((strOfNums ([(IntKind.u8.wrap (IntKind.i64.wrap ((48 : Int) + (Int.tmod x11 (10 : Int)))))])).size + x12.size ≤ 9223372036854775807) (nx14 (IntKind.i64.wrap (Int.tdiv x11 (10 : Int))) ((strOfNums ([(IntKind.u8.wrap (IntKind.i64.wrap ((48 : Int) + (Int.tmod x11 (10 : Int)))))])) ++ x12))) (F28_j0 N x12)
def F28_l0 (N : Nat) : Nat → Int → ByteArray → Option (ByteArray) := loopF (F28_l0_b N) (fun _ _ => none)
theorem F28_l0_s (N : Nat) {k : Nat} (hk : 0 < k) (x11 : Int) (x12 : ByteArray) : F28_l0 N k x11 x12 = F28_l0_b N (F28_l0 N (k - 1)) x11 x12 := by
  cases k with
  | zero => exact absurd hk (Nat.lt_irrefl 0)
  | succ m => rfl
def F28 (N : Nat) (a0 : Int) : Option (ByteArray) :=
  cond (decide (a0 ≤ (0 : Int))) (some (⟨#[109, 48]⟩ : ByteArray)) (F28_l0 N N a0 ByteArray.empty)
theorem ok28 (N : Nat) (a0 : Int) {r : ByteArray} (h : F28 N a0 = some r) : Con Go.Proofs.Try.prog 28 [I a0] [.lf (.v .str r)] := by
  refine ⟨enters_of Go.Proofs.Try.func28 rfl (by decide), HC.intro [.lf (.v .str)] T_ok Go.Proofs.Try.func28 rfl (Nat.le_of_ble_eq_true rfl) (Nat.le_of_ble_eq_true rfl) fun w0 E0 => ?_⟩
  unfold F28 at h
  show VW _ _ _ _ _ (retQ _ _ _ _) _
  refine VW.seq ?_
  refine VW.region ?_
  refine VO.seg T_ok .dp 1 [0] [] (s' := ⟨[(0, I a0)], []⟩) (φ := True ∧ True) (by kernel_rfl) ⟨trivial, trivial⟩ ?_
  refine VO.nil ?_
  show VW _ _ _ _ _ _ _
  refine VW.seq ?_
  refine VW.seq ?_
  refine VW.region ?_
  refine VO.seg T_ok .dp 2 [0, 5] [] (s' := ⟨[(0, I a0), (5, B (decide (a0 ≤ (0 : Int))))], []⟩) (φ := True ∧ True ∧ True) (by kernel_rfl) ⟨trivial, trivial, trivial⟩ ?_
  refine VO.nil ?_
  show VW _ _ _ _ _ _ _
  refine VW.cond (b := (decide (a0 ≤ (0 : Int)))) (by kernel_rfl) (fun hb => ?_) (fun hb => ?_)
  · replace h := cond_t h hb; clear hb
    refine VW.seq ?_
    refine VW.region ?_
    refine VO.seg T_ok .dp 1 [2] [] (s' := ⟨[(2, S (⟨#[109, 48]⟩ : ByteArray))], []⟩) (φ := True ∧ True) (by kernel_rfl) ⟨trivial, trivial⟩ ?_
    refine VO.nil ?_
    show VW _ _ _ _ _ _ _
    refine VW.ret ?_
    replace h := Option.some.inj h
    subst h
    exact retR [] (by kernel_rfl) rfl
  · replace h := cond_f h hb; clear hb
    refine VW.skip ?_
    show VW _ _ _ _ _ _ _
    refine VW.seq ?_
    refine VW.region ?_
    refine VO.seg T_ok .dp 1 [0, 3] [] (s' := ⟨[(0, I a0), (3, S ByteArray.empty)], []⟩) (φ := True ∧ True) (by kernel_rfl) ⟨trivial, trivial⟩ ?_
    refine VO.nil ?_
    show VW _ _ _ _ _ _ _
    refine VW.join (fun s => ∃ (x7 : ByteArray), s = ⟨[(3, S x7)], []⟩ ∧ F28_j0 N x7 = some r) ?_ ?_
    · refine VW.block ?_
      refine VW.loopL (fun k s => ∃ (x11 : Int) (x12 : ByteArray), s = ⟨[(0, I x11), (3, S x12)], []⟩ ∧ F28_l0 N k x11 x12 = some r) N [.ren [0, 3] []] (by kernel_rfl) ⟨a0, ByteArray.empty, rfl, h⟩ ?_
      rintro k14 s ⟨x11, x12, rfl, h⟩
      cases k14 with
      | zero => exact nomatch (show (none : Option (ByteArray)) = some r from h)
      | succ k14 =>
        replace h : F28_l0_b N (F28_l0 N k14) x11 x12 = some r := h
        unfold F28_l0_b at h
        refine VW.seq ?_
        refine VW.seq ?_
        refine VW.region ?_
        refine VO.seg T_ok .dp 2 [0, 3, 7] [] (s' := ⟨[(0, I x11), (3, S x12), (7, B (decide (x11 > (0 : Int))))], []⟩) (φ := True ∧ True ∧ True) (by kernel_rfl) ⟨trivial, trivial, trivial⟩ ?_
        refine VO.nil ?_
        show VW _ _ _ _ _ _ _
        refine VW.cond (b := (decide (x11 > (0 : Int)))) (by kernel_rfl) (fun hb => ?_) (fun hb => ?_)
        · replace h := cond_t h hb; clear hb
          refine VW.skip ?_
          show VW _ _ _ _ _ _ _
          refine VW.block ?_
          refine VW.seq ?_
          refine VW.region ?_
          obtain ⟨g15, h⟩ := gd_some h
          refine VO.seg T_ok .dp 9 [0, 3] [] (s' := ⟨[(0, I x11), (3, S ((strOfNums ([(IntKind.u8.wrap (IntKind.i64.wrap ((48 : Int) + (Int.tmod x11 (10 : Int)))))])) ++ x12))], []⟩) (φ := True ∧ ((10 : Int) ≠ 0) ∧ True ∧ True ∧ True ∧ True ∧ True ∧ ((strOfNums ([(IntKind.u8.wrap (IntKind.i64.wrap ((48 : Int) + (Int.tmod x11 (10 : Int)))))])).size + x12.size ≤ 9223372036854775807) ∧ True ∧ True) (by kernel_rfl) ⟨trivial, (by decide), trivial, trivial, trivial, trivial, trivial, g15, trivial, trivial⟩ ?_
          refine VO.nil ?_
          show VW _ _ _ _ _ _ _
          refine VW.region ?_
          refine VO.seg T_ok .dp 3 [0, 3] [] (s' := ⟨[(0, I (IntKind.i64.wrap (Int.tdiv x11 (10 : Int)))), (3, S ((strOfNums ([(IntKind.u8.wrap (IntKind.i64.wrap ((48 : Int) + (Int.tmod x11 (10 : Int)))))])) ++ x12))], []⟩) (φ := True ∧ ((10 : Int) ≠ 0) ∧ True ∧ True) (by kernel_rfl) ⟨trivial, (by decide), trivial, trivial⟩ ?_
          refine VO.nil ?_
          exact around [.ren [0, 3] []] (by kernel_rfl) ⟨(IntKind.i64.wrap (Int.tdiv x11 (10 : Int))), ((strOfNums ([(IntKind.u8.wrap (IntKind.i64.wrap ((48 : Int) + (Int.tmod x11 (10 : Int)))))])) ++ x12), rfl, h⟩
        · replace h := cond_f h hb; clear hb
          refine VW.exit ?_
          exact arrive [.ren [3] []] (by kernel_rfl) ⟨x12, rfl, h⟩
    · rintro s ⟨x7, rfl, h⟩
      unfold F28_j0 at h
      refine VW.seq ?_
      refine VW.region ?_
      obtain ⟨g8, h⟩ := gd_some h
      refine VO.seg T_ok .dp 3 [2] [] (s' := ⟨[(2, S ((⟨#[109]⟩ : ByteArray) ++ x7))], []⟩) (φ := True ∧ ((⟨#[109]⟩ : ByteArray).size + x7.size ≤ 9223372036854775807) ∧ True ∧ True) (by kernel_rfl) ⟨trivial, g8, trivial, trivial⟩ ?_
      refine VO.nil ?_
      show VW _ _ _ _ _ _ _
      refine VW.ret ?_
      replace h := Option.some.inj h
      subst h
      exact retR [] (by kernel_rfl) rfl

/- loop.example/g00844/laws.markNodeS -/
def F13_j0 (N : Nat) (x101 : Int) (x102 : (List (Int × (ByteArray × (Int × (Int × (Int × (Bool × (List Int))))))))) : Option ((List (Int × (ByteArray × (Int × (Int × (Int × (Bool × (List Int)))))))) × Int) :=
  some (x102, x101)
def F13_l0_b (N : Nat) (nx171 : (List (Int × (ByteArray × (Int × (Int × (Int × (Bool × (List Int)))))))) → Int → Int → Option ((List (Int × (ByteArray × (Int × (Int × (Int × (Bool × (List Int)))))))) × Int)) (x136 : (List (Int × (ByteArray × (Int × (Int × (Int × (Bool × (List Int))))))))) (x137 : Int) (x138 : Int) : Option ((List (Int × (ByteArray × (Int × (Int × (Int × (Bool × (List Int)))))))) × Int) :=
  cond (decide (x138 < (x136.length : Int))) (gd (InR x138 x136.length) (gd (x138.toNat < x136.length) (andO (F28 N (IntKind.i64.wrap (x137 + (1 : Int)))) fun y190 => gd (InR x138 (x136.set x138.toNat (x137, ((x136.getD x138.toNat (Ty.dflt Y40)).2.1, ((x136.getD x138.toNat (Ty.dflt Y40)).2.2.1, ((x136.getD x138.toNat (Ty.dflt Y40)).2.2.2.1, ((x136.getD x138.toNat (Ty.dflt Y40)).2.2.2.2.1, ((x136.getD x138.toNat (Ty.dflt Y40)).2.2.2.2.2.1, (x136.getD x138.toNat (Ty.dflt Y40)).2.2.2.2.2.2))))))).length) (gd (x138.toNat < (x136.set x138.toNat (x137, ((x136.getD x138.toNat (Ty.dflt Y40)).2.1, ((x136.getD x138.toNat (Ty.dflt Y40)).2.2.1, ((x136.getD x138.toNat (Ty.dflt Y40)).2.2.2.1, ((x136.getD x138.toNat (Ty.dflt Y40)).2.2.2.2.1, ((x136.getD x138.toNat (Ty.dflt Y40)).2.2.2.2.2.1, (x136.getD x138.toNat (Ty.dflt Y40)).2.2.2.2.2.2))))))).length) (gd (InR x138 (x136.set x138.toNat (x137, (y190, ((x136.getD x138.toNat (Ty.dflt Y40)).2.2.1, ((x136.getD x138.toNat (Ty.dflt Y40)).2.2.2.1, ((x136.getD x138.toNat (Ty.dflt Y40)).2.2.2.2.1, ((x136.getD x138.toNat (Ty.dflt Y40)).2.2.2.2.2.1, (x136.getD x138.toNat (Ty.dflt Y40)).2.2.2.2.2.2))))))).length) (gd (x138.toNat < (x136.set x138.toNat (x137, (y190, ((x136.getD x138.toNat (Ty.dflt Y40)).2.2.1, ((x136.getD x138.toNat (Ty.dflt Y40)).2.2.2.1, ((x136.getD x138.toNat (Ty.dflt Y40)).2.2.2.2.1, ((x136.getD x138.toNat (Ty.dflt Y40)).2.2.2.2.2.1, (x136.getD x138.toNat (Ty.dflt Y40)).2.2.2.2.2.2))))))).length) (gd (InR x138 (x136.set x138.toNat (x137, (y190, ((IntKind.i64.wrap ((IntKind.i64.wrap (x137 + (1 : Int))) + (1 : Int))), ((x136.getD x138.toNat (Ty.dflt Y40)).2.2.2.1, ((x136.getD x138.toNat (Ty.dflt Y40)).2.2.2.2.1, ((x136.getD x138.toNat (Ty.dflt Y40)).2.2.2.2.2.1, (x136.getD x138.toNat (Ty.dflt Y40)).2.2.2.2.2.2))))))).length) (gd (x138.toNat < (x136.set x138.toNat (x137, (y190, ((IntKind.i64.wrap ((IntKind.i64.wrap (x137 + (1 : Int))) + (1 : Int))), ((x136.getD x138.toNat (Ty.dflt Y40)).2.2.2.1, ((x136.getD x138.toNat (Ty.dflt Y40)).2.2.2.2.1, ((x136.getD x138.toNat (Ty.dflt Y40)).2.2.2.2.2.1, (x136.getD x138.toNat (Ty.dflt Y40)).2.2.2.2.2.2))))))).length) (gd (InR x138 (x136.set x138.toNat (x137, (y190, ((IntKind.i64.wrap ((IntKind.i64.wrap (x137 + (1 : Int))) + (1 : Int))), ((IntKind.i64.wrap ((IntKind.i64.wrap ((IntKind.i64.wrap (x137 + (1 : Int))) + (1 : Int))) + (1 : Int))), ((x136.getD x138.toNat (Ty.dflt Y40)).2.2.2.2.1, ((x136.getD x138.toNat (Ty.dflt Y40)).2.2.2.2.2.1, (x136.getD x138.toNat (Ty.dflt Y40)).2.2.2.2.2.2))))))).length) (gd (x138.toNat < (x136.set x138.toNat (x137, (y190, ((IntKind.i64.wrap ((IntKind.i64.wrap (x137 + (1 : Int))) + (1 : Int))), ((IntKind.i64.wrap ((IntKind.i64.wrap ((IntKind.i64.wrap (x137 + (1 : Int))) + (1 : Int))) + (1 : Int))), ((x136.getD x138.toNat (Ty.dflt Y40)).2.2.2.2.1, ((x136.getD x138.toNat (Ty.dflt Y40)).2.2.2.2.2.1, (x136.getD x138.toNat (Ty.dflt Y40)).2.2.2.2.2.2))))))).length) (gd (InR x138 (x136.set x138.toNat (x137, (y190, ((IntKind.i64.wrap ((IntKind.i64.wrap (x137 + (1 : Int))) + (1 : Int))), ((IntKind.i64.wrap ((IntKind.i64.wrap ((IntKind.i64.wrap (x137 + (1 : Int))) + (1 : Int))) + (1 : Int))), ((IntKind.i64.wrap ((IntKind.i64.wrap ((IntKind.i64.wrap ((IntKind.i64.wrap (x137 + (1 : Int))) + (1 : Int))) + (1 : Int))) + (1 : Int))), ((x136.getD x138.toNat (Ty.dflt Y40)).2.2.2.2.2.1, (x136.getD x138.toNat (Ty.dflt Y40)).2.2.2.2.2.2))))))).length) (gd (x138.toNat < (x136.set x138.toNat (x137, (y190, ((IntKind.i64.wrap ((IntKind.i64.wrap (x137 + (1 : Int))) + (1 : Int))), ((IntKind.i64.wrap ((IntKind.i64.wrap ((IntKind.i64.wrap (x137 + (1 : Int))) + (1 : Int))) + (1 : Int))), ((IntKind.i64.wrap ((IntKind.i64.wrap ((IntKind.i64.wrap ((IntKind.i64.wrap (x137 + (1 : Int))) + (1 : Int))) + (1 : Int))) + (1 : Int))), ((x136.getD x138.toNat (Ty.dflt Y40)).2.2.2.2.2.1, (x136.getD x138.toNat (Ty.dflt Y40)).2.2.2.2.2.2))))))).length) (gd (InR x138 (x136.set x138.toNat (x137, (y190, ((IntKind.i64.wrap ((IntKind.i64.wrap (x137 + (1 : Int))) + (1 : Int))), ((IntKind.i64.wrap ((IntKind.i64.wrap ((IntKind.i64.wrap (x137 + (1 : Int))) + (1 : Int))) + (1 : Int))), ((IntKind.i64.wrap ((IntKind.i64.wrap ((IntKind.i64.wrap ((IntKind.i64.wrap (x137 + (1 : Int))) + (1 : Int))) + (1 : Int))) + (1 : Int))), (((Int.tmod (IntKind.i64.wrap ((IntKind.i64.wrap ((IntKind.i64.wrap ((IntKind.i64.wrap ((IntKind.i64.wrap (x137 + (1 : Int))) + (1 : Int))) + (1 : Int))) + (1 : Int))) + (1 : Int))) (3 : Int)) == (0 : Int)), (x136.getD x138.toNat (Ty.dflt Y40)).2.2.2.2.2.2))))))).length) (gd (x138.toNat < (x136.set x138.toNat (x137, (y190, ((IntKind.i64.wrap ((IntKind.i64.wrap (x137 + (1 : Int))) + (1 : Int))), ((IntKind.i64.wrap ((IntKind.i64.wrap ((IntKind.i64.wrap (x137 + (1 : Int))) + (1 : Int))) + (1 : Int))), ((IntKind.i64.wrap ((IntKind.i64.wrap ((IntKind.i64.wrap ((IntKind.i64.wrap (x137 + (1 : Int))) + (1 : Int))) + (1 : Int))) + (1 : Int))), (((Int.tmod (IntKind.i64.wrap ((IntKind.i64.wrap ((IntKind.i64.wrap ((IntKind.i64.wrap ((IntKind.i64.wrap (x137 + (1 : Int))) + (1 : Int))) + (1 : Int))) + (1 : Int))) + (1 : Int))) (3 : Int)) == (0 : Int)), (x136.getD x138.toNat (Ty.dflt Y40)).2.2.2.2.2.2))))))).length) (andO (F14 N (((x136.set x138.toNat (x137, (y190, ((IntKind.i64.wrap ((IntKind.i64.wrap (x137 + (1 : Int))) + (1 : Int))), ((IntKind.i64.wrap ((IntKind.i64.wrap ((IntKind.i64.wrap (x137 + (1 : Int))) + (1 : Int))) + (1 : Int))), ((IntKind.i64.wrap ((IntKind.i64.wrap ((IntKind.i64.wrap ((IntKind.i64.wrap (x137 + (1 : Int))) + (1 : Int))) + (1 : Int))) + (1 : Int))), (((Int.tmod (IntKind.i64.wrap ((IntKind.i64.wrap ((IntKind.i64.wrap ((IntKind.i64.wrap ((IntKind.i64.wrap (x137 + (1 : Int))) + (1 : Int))) + (1 : Int))) + (1 : Int))) + (1 : Int))) (3 : Int)) == (0 : Int)), (x136.getD x138.toNat (Ty.dflt Y40)).2.2.2.2.2.2))))))).getD x138.toNat (Ty.dflt Y40)).2.2.2.2.2.2) (IntKind.i64.wrap ((IntKind.i64.wrap ((IntKind.i64.wrap ((IntKind.i64.wrap ((IntKind.i64.wrap ((IntKind.i64.wrap (x137 + (1 : Int))) + (1 : Int))) + (1 : Int))) + (1 : Int))) + (1 : Int))) + (1 : Int)))) fun y202 => nx171 ((x136.set x138.toNat (x137, (y190, ((IntKind.i64.wrap ((IntKind.i64.wrap (x137 + (1 : Int))) + (1 : Int))), ((IntKind.i64.wrap ((IntKind.i64.wrap ((IntKind.i64.wrap (x137 + (1 : Int))) + (1 : Int))) + (1 : Int))), ((IntKind.i64.wrap ((IntKind.i64.wrap ((IntKind.i64.wrap ((IntKind.i64.wrap (x137 + (1 : Int))) + (1 : Int))) + (1 : Int))) + (1 : Int))), (((Int.tmod (IntKind.i64.wrap ((IntKind.i64.wrap ((IntKind.i64.wrap ((IntKind.i64.wrap ((IntKind.i64.wrap (x137 + (1 : Int))) + (1 : Int))) + (1 : Int))) + (1 : Int))) + (1 : Int))) (3 : Int)) == (0 : Int)), (x136.getD x138.toNat (Ty.dflt Y40)).2.2.2.2.2.2))))))).set x138.toNat (((x136.set x138.toNat (x137, (y190, ((IntKind.i64.wrap ((IntKind.i64.wrap (x137 + (1 : Int))) + (1 : Int))), ((IntKind.i64.wrap ((IntKind.i64.wrap ((IntKind.i64.wrap (x137 + (1 : Int))) + (1 : Int))) + (1 : Int))), ((IntKind.i64.wrap ((IntKind.i64.wrap ((IntKind.i64.wrap ((IntKind.i64.wrap (x137 + (1 : Int))) + (1 : Int))) + (1 : Int))) + (1 : Int))), (((Int.tmod (IntKind.i64.wrap ((IntKind.i64.wrap ((IntKind.i64.wrap ((IntKind.i64.wrap ((IntKind.i64.wrap (x137 + (1 : Int))) + (1 : Int))) + (1 : Int))) + (1 : Int))) + (1 : Int))) (3 : Int)) == (0 : Int)), (x136.getD x138.toNat (Ty.dflt Y40)).2.2.2.2.2.2))))))).getD x138.toNat (Ty.dflt Y40)).1, (((x136.set x138.toNat (x137, (y190, ((IntKind.i64.wrap ((IntKind.i64.wrap (x137 + (1 : Int))) + (1 : Int))), ((IntKind.i64.wrap ((IntKind.i64.wrap ((IntKind.i64.wrap (x137 + (1 : Int))) + (1 : Int))) + (1 : Int))), ((IntKind.i64.wrap ((IntKind.i64.wrap ((IntKind.i64.wrap ((IntKind.i64.wrap (x137 + (1 : Int))) + (1 : Int))) + (1 : Int))) + (1 : Int))), (((Int.tmod (IntKind.i64.wrap ((IntKind.i64.wrap ((IntKind.i64.wrap ((IntKind.i64.wrap ((IntKind.i64.wrap (x137 + (1 : Int))) + (1 : Int))) + (1 : Int))) + (1 : Int))) + (1 : Int))) (3 : Int)) == (0 : Int)), (x136.getD x138.toNat (Ty.dflt Y40)).2.2.2.2.2.2))))))).getD x138.toNat (Ty.dflt Y40)).2.1, (((x136.set x138.toNat (x137, (y190, ((IntKind.i64.wrap ((IntKind.i64.wrap (x137 + (1 : Int))) + (1 : Int))), ((IntKind.i64.wrap ((IntKind.i64.wrap ((IntKind.i64.wrap (x137 + (1 : Int))) + (1 : Int))) + (1 : Int))), ((IntKind.i64.wrap ((IntKind.i64.wrap ((IntKind.i64.wrap ((IntKind.i64.wrap (x137 + (1 : Int))) + (1 : Int))) + (1 : Int))) + (1 : Int))), (((Int.tmod (IntKind.i64.wrap ((IntKind.i64.wrap ((IntKind.i64.wrap ((IntKind.i64.wrap ((IntKind.i64.wrap (x137 + (1 : Int))) + (1 : Int))) + (1 : Int))) + (1 : Int))) + (1 : Int))) (3 : Int)) == (0 : Int)), (x136.getD x138.toNat (Ty.dflt Y40)).2.2.2.2.2.2))))))).getD x138.toNat (Ty.dflt Y40)).2.2.1, (((x136.set x138.toNat (x137, (y190, ((IntKind.i64.wrap ((IntKind.i64.wrap (x137 + (1 : Int))) + (1 : Int))), ((IntKind.i64.wrap ((IntKind.i64.wrap ((IntKind.i64.wrap (x137 + (1 : Int))) + (1 : Int))) + (1 : Int))), ((IntKind.i64.wrap ((IntKind.i64.wrap ((IntKind.i64.wrap ((IntKind.i64.wrap (x137 + (1 : Int))) + (1 : Int))) + (1 : Int))) + (1 : Int))), (((Int.tmod (IntKind.i64.wrap ((IntKind.i64.wrap ((IntKind.i64.wrap ((IntKind.i64.wrap ((IntKind.i64.wrap (x137 + (1 : Int))) + (1 : Int))) + (1 : Int))) + (1 : Int))) + (1 : Int))) (3 : Int)) == (0 : Int)), (x136.getD x138.toNat (Ty.dflt Y40)).2.2.2.2.2.2))))))).getD x138.toNat (Ty.dflt Y40)).2.2.2.1, (((x136.set x138.toNat (x137, (y190, ((IntKind.i64.wrap ((IntKind.i64.wrap (x137 + (1 : Int))) + (1 : Int))), ((IntKind.i64.wrap ((IntKind.i64.wrap ((IntKind.i64.wrap (x137 + (1 : Int))) + (1 : Int))) + (1 : Int))), ((IntKind.i64.wrap ((IntKind.i64.wrap ((IntKind.i64.wrap ((IntKind.i64.wrap (x137 + (1 : Int))) + (1 : Int))) + (1 : Int))) + (1 : Int))), (((Int.tmod (IntKind.i64.wrap ((IntKind.i64.wrap ((IntKind.i64.wrap ((IntKind.i64.wrap ((IntKind.i64.wrap (x137 + (1 : Int))) + (1 : Int))) + (1 : Int))) + (1 : Int))) + (1 : Int))) (3 : Int)) == (0 : Int)), (x136.getD x138.toNat (Ty.dflt Y40)).2.2.2.2.2.2))))))).getD x138.toNat (Ty.dflt Y40)).2.2.2.2.1, (((x136.set x138.toNat (x137, (y190, ((IntKind.i64.wrap ((IntKind.i64.wrap (x137 + (1 : Int))) + (1 : Int))), ((IntKind.i64.wrap ((IntKind.i64.wrap ((IntKind.i64.wrap (x137 + (1 : Int))) + (1 : Int))) + (1 : Int))), ((IntKind.i64.wrap ((IntKind.i64.wrap ((IntKind.i64.wrap ((IntKind.i64.wrap (x137 + (1 : Int))) + (1 : Int))) + (1 : Int))) + (1 : Int))), (((Int.tmod (IntKind.i64.wrap ((IntKind.i64.wrap ((IntKind.i64.wrap ((IntKind.i64.wrap ((IntKind.i64.wrap (x137 + (1 : Int))) + (1 : Int))) + (1 : Int))) + (1 : Int))) + (1 : Int))) (3 : Int)) == (0 : Int)), (x136.getD x138.toNat (Ty.dflt Y40)).2.2.2.2.2.2))))))).getD x138.toNat (Ty.dflt Y40)).2.2.2.2.2.1, y202.1))))))) y202.2 (IntKind.i64.wrap (x138 + (1 : Int)))))))))))))))))) (F13_j0 N x137 x136)
def F13_l0 (N : Nat) : Nat → (List (Int × (ByteArray × (Int × (Int × (Int × (Bool × (List Int)))))))) → Int → Int → Option ((List (Int × (ByteArray × (Int × (Int × (Int × (Bool × (List Int)))))))) × Int) := loopF (F13_l0_b N) (fun _ _ _ => none)
theorem F13_l0_s (N : Nat) {k : Nat} (hk : 0 < k) (x136 : (List (Int × (ByteArray × (Int × (Int × (Int × (Bool × (List Int))))))))) (x137 : Int) (x138 : Int) : F13_l0 N k x136 x137 x138 = F13_l0_b N (F13_l0 N (k - 1)) x136 x137 x138 := by
  cases k with
  | zero => exact absurd hk (Nat.lt_irrefl 0)
  | succ m => rfl
def F13 (N : Nat) (a0 : (List (Int × (ByteArray × (Int × (Int × (Int × (Bool × (List Int))))))))) (a1 : Int) : Option ((List (Int × (ByteArray × (Int × (Int × (Int × (Bool × (List Int)))))))) × Int) :=
  F13_l0 N N a0 a1 (0 : Int)
theorem ok13 (N : Nat) (a0 : (List (Int × (ByteArray × (Int × (Int × (Int × (Bool × (List Int))))))))) (a1 : Int) {r : (List (Int × (ByteArray × (Int × (Int × (Int × (Bool × (List Int)))))))) × Int} (h : F13 N a0 a1 = some r) : ConM Go.Proofs.Try.prog 13 [ar 0 Y40 a0 .dp] [.lf (.hd 0 0 none), I a1] [.lf (.v (.int .i64) r.2)] [ar 0 Y40 r.1 .dp] := by
  refine ⟨enters_of Go.Proofs.Try.func13 rfl (by decide), HM.intro [.lf (.v (.int .i64))] T_ok Go.Proofs.Try.func13 rfl (Nat.le_of_ble_eq_true rfl) (Nat.le_of_ble_eq_true rfl) fun w0 E0 => ?_⟩
  unfold F13 at h
  show VW _ _ _ _ _ (retM _ _ _ _ _) _
  refine VW.seq ?_
  refine VW.region ?_
  refine VO.seg T_ok .dp 1 [0, 1, 65536] [0] (s' := ⟨[(0, .lf (.hd 0 0 none)), (1, I a1), (65536, .lf (.hd 0 0 none))], [ar 0 Y40 a0 .dp]⟩) (φ := True ∧ True) (by kernel_rfl) ⟨trivial, trivial⟩ ?_
  refine VO.nil ?_
  show VW _ _ _ _ _ _ _
  refine VW.join (fun s => ∃ (x101 : Int) (x102 : (List (Int × (ByteArray × (Int × (Int × (Int × (Bool × (List Int))))))))), s = ⟨[(1, I x101), (65536, .lf (.hd 0 0 none))], [ar 0 Y40 x102 .dp]⟩ ∧ F13_j0 N x101 x102 = some r) ?_ ?_
  · refine VW.seq ?_
    refine VW.region ?_
    refine VO.seg T_ok .dp 1 [0, 1, 5, 65536] [0] (s' := ⟨[(0, .lf (.hd 0 0 none)), (1, I a1), (5, I (0 : Int)), (65536, .lf (.hd 0 0 none))], [ar 0 Y40 a0 .dp]⟩) (φ := True ∧ True) (by kernel_rfl) ⟨trivial, trivial⟩ ?_
    refine VO.nil ?_
    show VW _ _ _ _ _ _ _
    refine VW.block ?_
    refine VW.loopL (fun k s => ∃ (x136 : (List (Int × (ByteArray × (Int × (Int × (Int × (Bool × (List Int))))))))) (x137 : Int) (x138 : Int), s = ⟨[(0, .lf (.hd 0 0 none)), (1, I x137), (5, I x138), (65536, .lf (.hd 0 0 none))], [ar 0 Y40 x136 .dp]⟩ ∧ F13_l0 N k x136 x137 x138 = some r) N [.ren [0, 1, 5, 65536] [0]] (by kernel_rfl) ⟨a0, a1, (0 : Int), rfl, h⟩ ?_
    rintro k171 s ⟨x136, x137, x138, rfl, h⟩
    cases k171 with
    | zero => exact nomatch (show (none : Option ((List (Int × (ByteArray × (Int × (Int × (Int × (Bool × (List Int)))))))) × Int)) = some r from h)
    | succ k171 =>
      replace h : F13_l0_b N (F13_l0 N k171) x136 x137 x138 = some r := h
      unfold F13_l0_b at h
      refine VW.seq ?_
      refine VW.seq ?_
      refine VW.region ?_
      refine VO.seg T_ok .dp 4 [0, 1, 5, 9, 65536] [0] (s' := ⟨[(0, .lf (.hd 0 0 none)), (1, I x137), (5, I x138), (9, B (decide (x138 < (x136.length : Int)))), (65536, .lf (.hd 0 0 none))], [ar 0 Y40 x136 .dp]⟩) (φ := True ∧ True ∧ True ∧ True ∧ True) (by kernel_rfl) ⟨trivial, trivial, trivial, trivial, trivial⟩ ?_
      refine VO.nil ?_
      show VW _ _ _ _ _ _ _
      refine VW.cond (b := (decide (x138 < (x136.length : Int)))) (by kernel_rfl) (fun hb => ?_) (fun hb => ?_)
      · replace h := cond_t h hb; clear hb
        refine VW.skip ?_
        show VW _ _ _ _ _ _ _
        refine VW.seq ?_
        refine VW.block ?_
        refine VW.seq ?_
        refine VW.region ?_
        obtain ⟨g188, h⟩ := gd_some h
        obtain ⟨g189, h⟩ := gd_some h
        refine VO.seg T_ok .dp 6 [0, 1, 5, 65536] [0] (s' := ⟨[(0, .lf (.hd 0 0 none)), (1, I x137), (5, I x138), (65536, .lf (.hd 0 0 none))], [ar 0 Y40 (x136.set x138.toNat (x137, ((x136.getD x138.toNat (Ty.dflt Y40)).2.1, ((x136.getD x138.toNat (Ty.dflt Y40)).2.2.1, ((x136.getD x138.toNat (Ty.dflt Y40)).2.2.2.1, ((x136.getD x138.toNat (Ty.dflt Y40)).2.2.2.2.1, ((x136.getD x138.toNat (Ty.dflt Y40)).2.2.2.2.2.1, (x136.getD x138.toNat (Ty.dflt Y40)).2.2.2.2.2.2))))))) .dp]⟩) (φ := True ∧ True ∧ True ∧ (InR x138 x136.length) ∧ True ∧ (x138.toNat < x136.length) ∧ True) (by kernel_rfl) ⟨trivial, trivial, trivial, g188, trivial, g189, trivial⟩ ?_
        refine VO.nil ?_
        show VW _ _ _ _ _ _ _
        refine VW.seq ?_
        refine VW.region ?_
        refine VO.seg T_ok .dp 3 [0, 1, 5, 65536] [0] (s' := ⟨[(0, .lf (.hd 0 0 none)), (1, I (IntKind.i64.wrap (x137 + (1 : Int)))), (5, I x138), (65536, .lf (.hd 0 0 none))], [ar 0 Y40 (x136.set x138.toNat (x137, ((x136.getD x138.toNat (Ty.dflt Y40)).2.1, ((x136.getD x138.toNat (Ty.dflt Y40)).2.2.1, ((x136.getD x138.toNat (Ty.dflt Y40)).2.2.2.1, ((x136.getD x138.toNat (Ty.dflt Y40)).2.2.2.2.1, ((x136.getD x138.toNat (Ty.dflt Y40)).2.2.2.2.2.1, (x136.getD x138.toNat (Ty.dflt Y40)).2.2.2.2.2.2))))))) .dp]⟩) (φ := True ∧ True ∧ True ∧ True) (by kernel_rfl) ⟨trivial, trivial, trivial, trivial⟩ ?_
        refine VO.nil ?_
        show VW _ _ _ _ _ _ _
        refine VW.seq ?_
        refine VW.region ?_
        refine VO.seg T_ok .dp 3 [0, 1, 5, 19, 20, 21, 65536] [0] (s' := ⟨[(0, .lf (.hd 0 0 none)), (1, I (IntKind.i64.wrap (x137 + (1 : Int)))), (5, I x138), (19, .lf (.hd 0 0 none)), (20, I x138), (21, I (IntKind.i64.wrap (x137 + (1 : Int)))), (65536, .lf (.hd 0 0 none))], [ar 0 Y40 (x136.set x138.toNat (x137, ((x136.getD x138.toNat (Ty.dflt Y40)).2.1, ((x136.getD x138.toNat (Ty.dflt Y40)).2.2.1, ((x136.getD x138.toNat (Ty.dflt Y40)).2.2.2.1, ((x136.getD x138.toNat (Ty.dflt Y40)).2.2.2.2.1, ((x136.getD x138.toNat (Ty.dflt Y40)).2.2.2.2.2.1, (x136.getD x138.toNat (Ty.dflt Y40)).2.2.2.2.2.2))))))) .dp]⟩) (φ := True ∧ True ∧ True ∧ True) (by kernel_rfl) ⟨trivial, trivial, trivial, trivial⟩ ?_
        obtain ⟨y190, hy, h⟩ := andO_some h
        refine VO.call false [.t (.int .i64)] [] T_ok (d := some 22) (by kernel_rfl) (ok28 N _ hy) rfl ?_
        obtain ⟨g191, h⟩ := gd_some h
        obtain ⟨g192, h⟩ := gd_some h
        refine VO.seg T_ok .dp 3 [0, 1, 5, 65536] [0] (s' := ⟨[(0, .lf (.hd 0 0 none)), (1, I (IntKind.i64.wrap (x137 + (1 : Int)))), (5, I x138), (65536, .lf (.hd 0 0 none))], [ar 0 Y40 ((x136.set x138.toNat (x137, ((x136.getD x138.toNat (Ty.dflt Y40)).2.1, ((x136.getD x138.toNat (Ty.dflt Y40)).2.2.1, ((x136.getD x138.toNat (Ty.dflt Y40)).2.2.2.1, ((x136.getD x138.toNat (Ty.dflt Y40)).2.2.2.2.1, ((x136.getD x138.toNat (Ty.dflt Y40)).2.2.2.2.2.1, (x136.getD x138.toNat (Ty.dflt Y40)).2.2.2.2.2.2))))))).set x138.toNat (((x136.set x138.toNat (x137, ((x136.getD x138.toNat (Ty.dflt Y40)).2.1, ((x136.getD x138.toNat (Ty.dflt Y40)).2.2.1, ((x136.getD x138.toNat (Ty.dflt Y40)).2.2.2.1, ((x136.getD x138.toNat (Ty.dflt Y40)).2.2.2.2.1, ((x136.getD x138.toNat (Ty.dflt Y40)).2.2.2.2.2.1, (x136.getD x138.toNat (Ty.dflt Y40)).2.2.2.2.2.2))))))).getD x138.toNat (Ty.dflt Y40)).1, (y190, (((x136.set x138.toNat (x137, ((x136.getD x138.toNat (Ty.dflt Y40)).2.1, ((x136.getD x138.toNat (Ty.dflt Y40)).2.2.1, ((x136.getD x138.toNat (Ty.dflt Y40)).2.2.2.1, ((x136.getD x138.toNat (Ty.dflt Y40)).2.2.2.2.1, ((x136.getD x138.toNat (Ty.dflt Y40)).2.2.2.2.2.1, (x136.getD x138.toNat (Ty.dflt Y40)).2.2.2.2.2.2))))))).getD x138.toNat (Ty.dflt Y40)).2.2.1, (((x136.set x138.toNat (x137, ((x136.getD x138.toNat (Ty.dflt Y40)).2.1, ((x136.getD x138.toNat (Ty.dflt Y40)).2.2.1, ((x136.getD x138.toNat (Ty.dflt Y40)).2.2.2.1, ((x136.getD x138.toNat (Ty.dflt Y40)).2.2.2.2.1, ((x136.getD x138.toNat (Ty.dflt Y40)).2.2.2.2.2.1, (x136.getD x138.toNat (Ty.dflt Y40)).2.2.2.2.2.2))))))).getD x138.toNat (Ty.dflt Y40)).2.2.2.1, (((x136.set x138.toNat (x137, ((x136.getD x138.toNat (Ty.dflt Y40)).2.1, ((x136.getD x138.toNat (Ty.dflt Y40)).2.2.1, ((x136.getD x138.toNat (Ty.dflt Y40)).2.2.2.1, ((x136.getD x138.toNat (Ty.dflt Y40)).2.2.2.2.1, ((x136.getD x138.toNat (Ty.dflt Y40)).2.2.2.2.2.1, (x136.getD x138.toNat (Ty.dflt Y40)).2.2.2.2.2.2))))))).getD x138.toNat (Ty.dflt Y40)).2.2.2.2.1, (((x136.set x138.toNat (x137, ((x136.getD x138.toNat (Ty.dflt Y40)).2.1, ((x136.getD x138.toNat (Ty.dflt Y40)).2.2.1, ((x136.getD x138.toNat (Ty.dflt Y40)).2.2.2.1, ((x136.getD x138.toNat (Ty.dflt Y40)).2.2.2.2.1, ((x136.getD x138.toNat (Ty.dflt Y40)).2.2.2.2.2.1, (x136.getD x138.toNat (Ty.dflt Y40)).2.2.2.2.2.2))))))).getD x138.toNat (Ty.dflt Y40)).2.2.2.2.2.1, ((x136.set x138.toNat (x137, ((x136.getD x138.toNat (Ty.dflt Y40)).2.1, ((x136.getD x138.toNat (Ty.dflt Y40)).2.2.1, ((x136.getD x138.toNat (Ty.dflt Y40)).2.2.2.1, ((x136.getD x138.toNat (Ty.dflt Y40)).2.2.2.2.1, ((x136.getD x138.toNat (Ty.dflt Y40)).2.2.2.2.2.1, (x136.getD x138.toNat (Ty.dflt Y40)).2.2.2.2.2.2))))))).getD x138.toNat (Ty.dflt Y40)).2.2.2.2.2.2))))))) .dp]⟩) (φ := (InR x138 (x136.set x138.toNat (x137, ((x136.getD x138.toNat (Ty.dflt Y40)).2.1, ((x136.getD x138.toNat (Ty.dflt Y40)).2.2.1, ((x136.getD x138.toNat (Ty.dflt Y40)).2.2.2.1, ((x136.getD x138.toNat (Ty.dflt Y40)).2.2.2.2.1, ((x136.getD x138.toNat (Ty.dflt Y40)).2.2.2.2.2.1, (x136.getD x138.toNat (Ty.dflt Y40)).2.2.2.2.2.2))))))).length) ∧ True ∧ (x138.toNat < (x136.set x138.toNat (x137, ((x136.getD x138.toNat (Ty.dflt Y40)).2.1, ((x136.getD x138.toNat (Ty.dflt Y40)).2.2.1, ((x136.getD x138.toNat (Ty.dflt Y40)).2.2.2.1, ((x136.getD x138.toNat (Ty.dflt Y40)).2.2.2.2.1, ((x136.getD x138.toNat (Ty.dflt Y40)).2.2.2.2.2.1, (x136.getD x138.toNat (Ty.dflt Y40)).2.2.2.2.2.2))))))).length) ∧ True) (by kernel_rfl) ⟨g191, trivial, g192, trivial⟩ ?_
        rw [show ((x136.set x138.toNat (x137, ((x136.getD x138.toNat (Ty.dflt Y40)).2.1, ((x136.getD x138.toNat (Ty.dflt Y40)).2.2.1, ((x136.getD x138.toNat (Ty.dflt Y40)).2.2.2.1, ((x136.getD x138.toNat (Ty.dflt Y40)).2.2.2.2.1, ((x136.getD x138.toNat (Ty.dflt Y40)).2.2.2.2.2.1, (x136.getD x138.toNat (Ty.dflt Y40)).2.2.2.2.2.2))))))).set x138.toNat (((x136.set x138.toNat (x137, ((x136.getD x138.toNat (Ty.dflt Y40)).2.1, ((x136.getD x138.toNat (Ty.dflt Y40)).2.2.1, ((x136.getD x138.toNat (Ty.dflt Y40)).2.2.2.1, ((x136.getD x138.toNat (Ty.dflt Y40)).2.2.2.2.1, ((x136.getD x138.toNat (Ty.dflt Y40)).2.2.2.2.2.1, (x136.getD x138.toNat (Ty.dflt Y40)).2.2.2.2.2.2))))))).getD x138.toNat (Ty.dflt Y40)).1, (y190, (((x136.set x138.toNat (x137, ((x136.getD x138.toNat (Ty.dflt Y40)).2.1, ((x136.getD x138.toNat (Ty.dflt Y40)).2.2.1, ((x136.getD x138.toNat (Ty.dflt Y40)).2.2.2.1, ((x136.getD x138.toNat (Ty.dflt Y40)).2.2.2.2.1, ((x136.getD x138.toNat (Ty.dflt Y40)).2.2.2.2.2.1, (x136.getD x138.toNat (Ty.dflt Y40)).2.2.2.2.2.2))))))).getD x138.toNat (Ty.dflt Y40)).2.2.1, (((x136.set x138.toNat (x137, ((x136.getD x138.toNat (Ty.dflt Y40)).2.1, ((x136.getD x138.toNat (Ty.dflt Y40)).2.2.1, ((x136.getD x138.toNat (Ty.dflt Y40)).2.2.2.1, ((x136.getD x138.toNat (Ty.dflt Y40)).2.2.2.2.1, ((x136.getD x138.toNat (Ty.dflt Y40)).2.2.2.2.2.1, (x136.getD x138.toNat (Ty.dflt Y40)).2.2.2.2.2.2))))))).getD x138.toNat (Ty.dflt Y40)).2.2.2.1, (((x136.set x138.toNat (x137, ((x136.getD x138.toNat (Ty.dflt Y40)).2.1, ((x136.getD x138.toNat (Ty.dflt Y40)).2.2.1, ((x136.getD x138.toNat (Ty.dflt Y40)).2.2.2.1, ((x136.getD x138.toNat (Ty.dflt Y40)).2.2.2.2.1, ((x136.getD x138.toNat (Ty.dflt Y40)).2.2.2.2.2.1, (x136.getD x138.toNat (Ty.dflt Y40)).2.2.2.2.2.2))))))).getD x138.toNat (Ty.dflt Y40)).2.2.2.2.1, (((x136.set x138.toNat (x137, ((x136.getD x138.toNat (Ty.dflt Y40)).2.1, ((x136.getD x138.toNat (Ty.dflt Y40)).2.2.1, ((x136.getD x138.toNat (Ty.dflt Y40)).2.2.2.1, ((x136.getD x138.toNat (Ty.dflt Y40)).2.2.2.2.1, ((x136.getD x138.toNat (Ty.dflt Y40)).2.2.2.2.2.1, (x136.getD x138.toNat (Ty.dflt Y40)).2.2.2.2.2.2))))))).getD x138.toNat (Ty.dflt Y40)).2.2.2.2.2.1, ((x136.set x138.toNat (x137, ((x136.getD x138.toNat (Ty.dflt Y40)).2.1, ((x136.getD x138.toNat (Ty.dflt Y40)).2.2.1, ((x136.getD x138.toNat (Ty.dflt Y40)).2.2.2.1, ((x136.getD x138.toNat (Ty.dflt Y40)).2.2.2.2.1, ((x136.getD x138.toNat (Ty.dflt Y40)).2.2.2.2.2.1, (x136.getD x138.toNat (Ty.dflt Y40)).2.2.2.2.2.2))))))).getD x138.toNat (Ty.dflt Y40)).2.2.2.2.2.2))))))) = (x136.set x138.toNat (x137, (y190, ((x136.getD x138.toNat (Ty.dflt Y40)).2.2.1, ((x136.getD x138.toNat (Ty.dflt Y40)).2.2.2.1, ((x136.getD x138.toNat (Ty.dflt Y40)).2.2.2.2.1, ((x136.getD x138.toNat (Ty.dflt Y40)).2.2.2.2.2.1, (x136.getD x138.toNat (Ty.dflt Y40)).2.2.2.2.2.2))))))) from set_upd x136 x138.toNat (x137, ((x136.getD x138.toNat (Ty.dflt Y40)).2.1, ((x136.getD x138.toNat (Ty.dflt Y40)).2.2.1, ((x136.getD x138.toNat (Ty.dflt Y40)).2.2.2.1, ((x136.getD x138.toNat (Ty.dflt Y40)).2.2.2.2.1, ((x136.getD x138.toNat (Ty.dflt Y40)).2.2.2.2.2.1, (x136.getD x138.toNat (Ty.dflt Y40)).2.2.2.2.2.2)))))) (Ty.dflt Y40) (fun z => (z.1, (y190, (z.2.2.1, (z.2.2.2.1, (z.2.2.2.2.1, (z.2.2.2.2.2.1, z.2.2.2.2.2.2))))))) (by simpa using g192)]
        refine VO.seg T_ok .dp 0 [0, 1, 5, 65536] [0] (s' := ⟨[(0, .lf (.hd 0 0 none)), (1, I (IntKind.i64.wrap (x137 + (1 : Int)))), (5, I x138), (65536, .lf (.hd 0 0 none))], [ar 0 Y40 (x136.set x138.toNat (x137, (y190, ((x136.getD x138.toNat (Ty.dflt Y40)).2.2.1, ((x136.getD x138.toNat (Ty.dflt Y40)).2.2.2.1, ((x136.getD x138.toNat (Ty.dflt Y40)).2.2.2.2.1, ((x136.getD x138.toNat (Ty.dflt Y40)).2.2.2.2.2.1, (x136.getD x138.toNat (Ty.dflt Y40)).2.2.2.2.2.2))))))) .dp]⟩) (φ := True) (by kernel_rfl) trivial ?_
        refine VO.nil ?_
        show VW _ _ _ _ _ _ _
        refine VW.seq ?_
        refine VW.region ?_
        refine VO.seg T_ok .dp 3 [0, 1, 5, 65536] [0] (s' := ⟨[(0, .lf (.hd 0 0 none)), (1, I (IntKind.i64.wrap ((IntKind.i64.wrap (x137 + (1 : Int))) + (1 : Int)))), (5, I x138), (65536, .lf (.hd 0 0 none))], [ar 0 Y40 (x136.set x138.toNat (x137, (y190, ((x136.getD x138.toNat (Ty.dflt Y40)).2.2.1, ((x136.getD x138.toNat (Ty.dflt Y40)).2.2.2.1, ((x136.getD x138.toNat (Ty.dflt Y40)).2.2.2.2.1, ((x136.getD x138.toNat (Ty.dflt Y40)).2.2.2.2.2.1, (x136.getD x138.toNat (Ty.dflt Y40)).2.2.2.2.2.2))))))) .dp]⟩) (φ := True ∧ True ∧ True ∧ True) (by kernel_rfl) ⟨trivial, trivial, trivial, trivial⟩ ?_
        refine VO.nil ?_
        show VW _ _ _ _ _ _ _
        refine VW.seq ?_
        refine VW.region ?_
        obtain ⟨g193, h⟩ := gd_some h
        obtain ⟨g194, h⟩ := gd_some h
        refine VO.seg T_ok .dp 6 [0, 1, 5, 65536] [0] (s' := ⟨[(0, .lf (.hd 0 0 none)), (1, I (IntKind.i64.wrap ((IntKind.i64.wrap (x137 + (1 : Int))) + (1 : Int)))), (5, I x138), (65536, .lf (.hd 0 0 none))], [ar 0 Y40 ((x136.set x138.toNat (x137, (y190, ((x136.getD x138.toNat (Ty.dflt Y40)).2.2.1, ((x136.getD x138.toNat (Ty.dflt Y40)).2.2.2.1, ((x136.getD x138.toNat (Ty.dflt Y40)).2.2.2.2.1, ((x136.getD x138.toNat (Ty.dflt Y40)).2.2.2.2.2.1, (x136.getD x138.toNat (Ty.dflt Y40)).2.2.2.2.2.2))))))).set x138.toNat (((x136.set x138.toNat (x137, (y190, ((x136.getD x138.toNat (Ty.dflt Y40)).2.2.1, ((x136.getD x138.toNat (Ty.dflt Y40)).2.2.2.1, ((x136.getD x138.toNat (Ty.dflt Y40)).2.2.2.2.1, ((x136.getD x138.toNat (Ty.dflt Y40)).2.2.2.2.2.1, (x136.getD x138.toNat (Ty.dflt Y40)).2.2.2.2.2.2))))))).getD x138.toNat (Ty.dflt Y40)).1, (((x136.set x138.toNat (x137, (y190, ((x136.getD x138.toNat (Ty.dflt Y40)).2.2.1, ((x136.getD x138.toNat (Ty.dflt Y40)).2.2.2.1, ((x136.getD x138.toNat (Ty.dflt Y40)).2.2.2.2.1, ((x136.getD x138.toNat (Ty.dflt Y40)).2.2.2.2.2.1, (x136.getD x138.toNat (Ty.dflt Y40)).2.2.2.2.2.2))))))).getD x138.toNat (Ty.dflt Y40)).2.1, ((IntKind.i64.wrap ((IntKind.i64.wrap (x137 + (1 : Int))) + (1 : Int))), (((x136.set x138.toNat (x137, (y190, ((x136.getD x138.toNat (Ty.dflt Y40)).2.2.1, ((x136.getD x138.toNat (Ty.dflt Y40)).2.2.2.1, ((x136.getD x138.toNat (Ty.dflt Y40)).2.2.2.2.1, ((x136.getD x138.toNat (Ty.dflt Y40)).2.2.2.2.2.1, (x136.getD x138.toNat (Ty.dflt Y40)).2.2.2.2.2.2))))))).getD x138.toNat (Ty.dflt Y40)).2.2.2.1, (((x136.set x138.toNat (x137, (y190, ((x136.getD x138.toNat (Ty.dflt Y40)).2.2.1, ((x136.getD x138.toNat (Ty.dflt Y40)).2.2.2.1, ((x136.getD x138.toNat (Ty.dflt Y40)).2.2.2.2.1, ((x136.getD x138.toNat (Ty.dflt Y40)).2.2.2.2.2.1, (x136.getD x138.toNat (Ty.dflt Y40)).2.2.2.2.2.2))))))).getD x138.toNat (Ty.dflt Y40)).2.2.2.2.1, (((x136.set x138.toNat (x137, (y190, ((x136.getD x138.toNat (Ty.dflt Y40)).2.2.1, ((x136.getD x138.toNat (Ty.dflt Y40)).2.2.2.1, ((x136.getD x138.toNat (Ty.dflt Y40)).2.2.2.2.1, ((x136.getD x138.toNat (Ty.dflt Y40)).2.2.2.2.2.1, (x136.getD x138.toNat (Ty.dflt Y40)).2.2.2.2.2.2))))))).getD x138.toNat (Ty.dflt Y40)).2.2.2.2.2.1, ((x136.set x138.toNat (x137, (y190, ((x136.getD x138.toNat (Ty.dflt Y40)).2.2.1, ((x136.getD x138.toNat (Ty.dflt Y40)).2.2.2.1, ((x136.getD x138.toNat (Ty.dflt Y40)).2.2.2.2.1, ((x136.getD x138.toNat (Ty.dflt Y40)).2.2.2.2.2.1, (x136.getD x138.toNat (Ty.dflt Y40)).2.2.2.2.2.2))))))).getD x138.toNat (Ty.dflt Y40)).2.2.2.2.2.2))))))) .dp]⟩) (φ := True ∧ True ∧ True ∧ (InR x138 (x136.set x138.toNat (x137, (y190, ((x136.getD x138.toNat (Ty.dflt Y40)).2.2.1, ((x136.getD x138.toNat (Ty.dflt Y40)).2.2.2.1, ((x136.getD x138.toNat (Ty.dflt Y40)).2.2.2.2.1, ((x136.getD x138.toNat (Ty.dflt Y40)).2.2.2.2.2.1, (x136.getD x138.toNat (Ty.dflt Y40)).2.2.2.2.2.2))))))).length) ∧ True ∧ (x138.toNat < (x136.set x138.toNat (x137, (y190, ((x136.getD x138.toNat (Ty.dflt Y40)).2.2.1, ((x136.getD x138.toNat (Ty.dflt Y40)).2.2.2.1, ((x136.getD x138.toNat (Ty.dflt Y40)).2.2.2.2.1, ((x136.getD x138.toNat (Ty.dflt Y40)).2.2.2.2.2.1, (x136.getD x138.toNat (Ty.dflt Y40)).2.2.2.2.2.2))))))).length) ∧ True) (by kernel_rfl) ⟨trivial, trivial, trivial, g193, trivial, g194, trivial⟩ ?_
        rw [show ((x136.set x138.toNat (x137, (y190, ((x136.getD x138.toNat (Ty.dflt Y40)).2.2.1, ((x136.getD x138.toNat (Ty.dflt Y40)).2.2.2.1, ((x136.getD x138.toNat (Ty.dflt Y40)).2.2.2.2.1, ((x136.getD x138.toNat (Ty.dflt Y40)).2.2.2.2.2.1, (x136.getD x138.toNat (Ty.dflt Y40)).2.2.2.2.2.2))))))).set x138.toNat (((x136.set x138.toNat (x137, (y190, ((x136.getD x138.toNat (Ty.dflt Y40)).2.2.1, ((x136.getD x138.toNat (Ty.dflt Y40)).2.2.2.1, ((x136.getD x138.toNat (Ty.dflt Y40)).2.2.2.2.1, ((x136.getD x138.toNat (Ty.dflt Y40)).2.2.2.2.2.1, (x136.getD x138.toNat (Ty.dflt Y40)).2.2.2.2.2.2))))))).getD x138.toNat (Ty.dflt Y40)).1, (((x136.set x138.toNat (x137, (y190, ((x136.getD x138.toNat (Ty.dflt Y40)).2.2.1, ((x136.getD x138.toNat (Ty.dflt Y40)).2.2.2.1, ((x136.getD x138.toNat (Ty.dflt Y40)).2.2.2.2.1, ((x136.getD x138.toNat (Ty.dflt Y40)).2.2.2.2.2.1, (x136.getD x138.toNat (Ty.dflt Y40)).2.2.2.2.2.2))))))).getD x138.toNat (Ty.dflt Y40)).2.1, ((IntKind.i64.wrap ((IntKind.i64.wrap (x137 + (1 : Int))) + (1 : Int))), (((x136.set x138.toNat (x137, (y190, ((x136.getD x138.toNat (Ty.dflt Y40)).2.2.1, ((x136.getD x138.toNat (Ty.dflt Y40)).2.2.2.1, ((x136.getD x138.toNat (Ty.dflt Y40)).2.2.2.2.1, ((x136.getD x138.toNat (Ty.dflt Y40)).2.2.2.2.2.1, (x136.getD x138.toNat (Ty.dflt Y40)).2.2.2.2.2.2))))))).getD x138.toNat (Ty.dflt Y40)).2.2.2.1, (((x136.set x138.toNat (x137, (y190, ((x136.getD x138.toNat (Ty.dflt Y40)).2.2.1, ((x136.getD x138.toNat (Ty.dflt Y40)).2.2.2.1, ((x136.getD x138.toNat (Ty.dflt Y40)).2.2.2.2.1, ((x136.getD x138.toNat (Ty.dflt Y40)).2.2.2.2.2.1, (x136.getD x138.toNat (Ty.dflt Y40)).2.2.2.2.2.2))))))).getD x138.toNat (Ty.dflt Y40)).2.2.2.2.1, (((x136.set x138.toNat (x137, (y190, ((x136.getD x138.toNat (Ty.dflt Y40)).2.2.1, ((x136.getD x138.toNat (Ty.dflt Y40)).2.2.2.1, ((x136.getD x138.toNat (Ty.dflt Y40)).2.2.2.2.1, ((x136.getD x138.toNat (Ty.dflt Y40)).2.2.2.2.2.1, (x136.getD x138.toNat (Ty.dflt Y40)).2.2.2.2.2.2))))))).getD x138.toNat (Ty.dflt Y40)).2.2.2.2.2.1, ((x136.set x138.toNat (x137, (y190, ((x136.getD x138.toNat (Ty.dflt Y40)).2.2.1, ((x136.getD x138.toNat (Ty.dflt Y40)).2.2.2.1, ((x136.getD x138.toNat (Ty.dflt Y40)).2.2.2.2.1, ((x136.getD x138.toNat (Ty.dflt Y40)).2.2.2.2.2.1, (x136.getD x138.toNat (Ty.dflt Y40)).2.2.2.2.2.2))))))).getD x138.toNat (Ty.dflt Y40)).2.2.2.2.2.2))))))) = (x136.set x138.toNat (x137, (y190, ((IntKind.i64.wrap ((IntKind.i64.wrap (x137 + (1 : Int))) + (1 : Int))), ((x136.getD x138.toNat (Ty.dflt Y40)).2.2.2.1, ((x136.getD x138.toNat (Ty.dflt Y40)).2.2.2.2.1, ((x136.getD x138.toNat (Ty.dflt Y40)).2.2.2.2.2.1, (x136.getD x138.toNat (Ty.dflt Y40)).2.2.2.2.2.2))))))) from set_upd x136 x138.toNat (x137, (y190, ((x136.getD x138.toNat (Ty.dflt Y40)).2.2.1, ((x136.getD x138.toNat (Ty.dflt Y40)).2.2.2.1, ((x136.getD x138.toNat (Ty.dflt Y40)).2.2.2.2.1, ((x136.getD x138.toNat (Ty.dflt Y40)).2.2.2.2.2.1, (x136.getD x138.toNat (Ty.dflt Y40)).2.2.2.2.2.2)))))) (Ty.dflt Y40) (fun z => (z.1, (z.2.1, ((IntKind.i64.wrap ((IntKind.i64.wrap (x137 + (1 : Int))) + (1 : Int))), (z.2.2.2.1, (z.2.2.2.2.1, (z.2.2.2.2.2.1, z.2.2.2.2.2.2))))))) (by simpa using g194)]
        refine VO.seg T_ok .dp 0 [0, 1, 5, 65536] [0] (s' := ⟨[(0, .lf (.hd 0 0 none)), (1, I (IntKind.i64.wrap ((IntKind.i64.wrap (x137 + (1 : Int))) + (1 : Int)))), (5, I x138), (65536, .lf (.hd 0 0 none))], [ar 0 Y40 (x136.set x138.toNat (x137, (y190, ((IntKind.i64.wrap ((IntKind.i64.wrap (x137 + (1 : Int))) + (1 : Int))), ((x136.getD x138.toNat (Ty.dflt Y40)).2.2.2.1, ((x136.getD x138.toNat (Ty.dflt Y40)).2.2.2.2.1, ((x136.getD x138.toNat (Ty.dflt Y40)).2.2.2.2.2.1, (x136.getD x138.toNat (Ty.dflt Y40)).2.2.2.2.2.2))))))) .dp]⟩) (φ := True) (by kernel_rfl) trivial ?_
        refine VO.nil ?_
        show VW _ _ _ _ _ _ _
        refine VW.seq ?_
        refine VW.region ?_
        refine VO.seg T_ok .dp 3 [0, 1, 5, 65536] [0] (s' := ⟨[(0, .lf (.hd 0 0 none)), (1, I (IntKind.i64.wrap ((IntKind.i64.wrap ((IntKind.i64.wrap (x137 + (1 : Int))) + (1 : Int))) + (1 : Int)))), (5, I x138), (65536, .lf (.hd 0 0 none))], [ar 0 Y40 (x136.set x138.toNat (x137, (y190, ((IntKind.i64.wrap ((IntKind.i64.wrap (x137 + (1 : Int))) + (1 : Int))), ((x136.getD x138.toNat (Ty.dflt Y40)).2.2.2.1, ((x136.getD x138.toNat (Ty.dflt Y40)).2.2.2.2.1, ((x136.getD x138.toNat (Ty.dflt Y40)).2.2.2.2.2.1, (x136.getD x138.toNat (Ty.dflt Y40)).2.2.2.2.2.2))))))) .dp]⟩) (φ := True ∧ True ∧ True ∧ True) (by kernel_rfl) ⟨trivial, trivial, trivial, trivial⟩ ?_
        refine VO.nil ?_
        show VW _ _ _ _ _ _ _
        refine VW.seq ?_
        refine VW.region ?_
        obtain ⟨g195, h⟩ := gd_some h
        obtain ⟨g196, h⟩ := gd_some h
        refine VO.seg T_ok .dp 6 [0, 1, 5, 65536] [0] (s' := ⟨[(0, .lf (.hd 0 0 none)), (1, I (IntKind.i64.wrap ((IntKind.i64.wrap ((IntKind.i64.wrap (x137 + (1 : Int))) + (1 : Int))) + (1 : Int)))), (5, I x138), (65536, .lf (.hd 0 0 none))], [ar 0 Y40 ((x136.set x138.toNat (x137, (y190, ((IntKind.i64.wrap ((IntKind.i64.wrap (x137 + (1 : Int))) + (1 : Int))), ((x136.getD x138.toNat (Ty.dflt Y40)).2.2.2.1, ((x136.getD x138.toNat (Ty.dflt Y40)).2.2.2.2.1, ((x136.getD x138.toNat (Ty.dflt Y40)).2.2.2.2.2.1, (x136.getD x138.toNat (Ty.dflt Y40)).2.2.2.2.2.2))))))).set x138.toNat (((x136.set x138.toNat (x137, (y190, ((IntKind.i64.wrap ((IntKind.i64.wrap (x137 + (1 : Int))) + (1 : Int))), ((x136.getD x138.toNat (Ty.dflt Y40)).2.2.2.1, ((x136.getD x138.toNat (Ty.dflt Y40)).2.2.2.2.1, ((x136.getD x138.toNat (Ty.dflt Y40)).2.2.2.2.2.1, (x136.getD x138.toNat (Ty.dflt Y40)).2.2.2.2.2.2))))))).getD x138.toNat (Ty.dflt Y40)).1, (((x136.set x138.toNat (x137, (y190, ((IntKind.i64.wrap ((IntKind.i64.wrap (x137 + (1 : Int))) + (1 : Int))), ((x136.getD x138.toNat (Ty.dflt Y40)).2.2.2.1, ((x136.getD x138.toNat (Ty.dflt Y40)).2.2.2.2.1, ((x136.getD x138.toNat (Ty.dflt Y40)).2.2.2.2.2.1, (x136.getD x138.toNat (Ty.dflt Y40)).2.2.2.2.2.2))))))).getD x138.toNat (Ty.dflt Y40)).2.1, (((x136.set x138.toNat (x137, (y190, ((IntKind.i64.wrap ((IntKind.i64.wrap (x137 + (1 : Int))) + (1 : Int))), ((x136.getD x138.toNat (Ty.dflt Y40)).2.2.2.1, ((x136.getD x138.toNat (Ty.dflt Y40)).2.2.2.2.1, ((x136.getD x138.toNat (Ty.dflt Y40)).2.2.2.2.2.1, (x136.getD x138.toNat (Ty.dflt Y40)).2.2.2.2.2.2))))))).getD x138.toNat (Ty.dflt Y40)).2.2.1, ((IntKind.i64.wrap ((IntKind.i64.wrap ((IntKind.i64.wrap (x137 + (1 : Int))) + (1 : Int))) + (1 : Int))), (((x136.set x138.toNat (x137, (y190, ((IntKind.i64.wrap ((IntKind.i64.wrap (x137 + (1 : Int))) + (1 : Int))), ((x136.getD x138.toNat (Ty.dflt Y40)).2.2.2.1, ((x136.getD x138.toNat (Ty.dflt Y40)).2.2.2.2.1, ((x136.getD x138.toNat (Ty.dflt Y40)).2.2.2.2.2.1, (x136.getD x138.toNat (Ty.dflt Y40)).2.2.2.2.2.2))))))).getD x138.toNat (Ty.dflt Y40)).2.2.2.2.1, (((x136.set x138.toNat (x137, (y190, ((IntKind.i64.wrap ((IntKind.i64.wrap (x137 + (1 : Int))) + (1 : Int))), ((x136.getD x138.toNat (Ty.dflt Y40)).2.2.2.1, ((x136.getD x138.toNat (Ty.dflt Y40)).2.2.2.2.1, ((x136.getD x138.toNat (Ty.dflt Y40)).2.2.2.2.2.1, (x136.getD x138.toNat (Ty.dflt Y40)).2.2.2.2.2.2))))))).getD x138.toNat (Ty.dflt Y40)).2.2.2.2.2.1, ((x136.set x138.toNat (x137, (y190, ((IntKind.i64.wrap ((IntKind.i64.wrap (x137 + (1 : Int))) + (1 : Int))), ((x136.getD x138.toNat (Ty.dflt Y40)).2.2.2.1, ((x136.getD x138.toNat (Ty.dflt Y40)).2.2.2.2.1, ((x136.getD x138.toNat (Ty.dflt Y40)).2.2.2.2.2.1, (x136.getD x138.toNat (Ty.dflt Y40)).2.2.2.2.2.2))))))).getD x138.toNat (Ty.dflt Y40)).2.2.2.2.2.2))))))) .dp]⟩) (φ := True ∧ True ∧ True ∧ (InR x138 (x136.set x138.toNat (x137, (y190, ((IntKind.i64.wrap ((IntKind.i64.wrap (x137 + (1 : Int))) + (1 : Int))), ((x136.getD x138.toNat (Ty.dflt Y40)).2.2.2.1, ((x136.getD x138.toNat (Ty.dflt Y40)).2.2.2.2.1, ((x136.getD x138.toNat (Ty.dflt Y40)).2.2.2.2.2.1, (x136.getD x138.toNat (Ty.dflt Y40)).2.2.2.2.2.2))))))).length) ∧ True ∧ (x138.toNat < (x136.set x138.toNat (x137, (y190, ((IntKind.i64.wrap ((IntKind.i64.wrap (x137 + (1 : Int))) + (1 : Int))), ((x136.getD x138.toNat (Ty.dflt Y40)).2.2.2.1, ((x136.getD x138.toNat (Ty.dflt Y40)).2.2.2.2.1, ((x136.getD x138.toNat (Ty.dflt Y40)).2.2.2.2.2.1, (x136.getD x138.toNat (Ty.dflt Y40)).2.2.2.2.2.2))))))).length) ∧ True) (by kernel_rfl) ⟨trivial, trivial, trivial, g195, trivial, g196, trivial⟩ ?_
        rw [show ((x136.set x138.toNat (x137, (y190, ((IntKind.i64.wrap ((IntKind.i64.wrap (x137 + (1 : Int))) + (1 : Int))), ((x136.getD x138.toNat (Ty.dflt Y40)).2.2.2.1, ((x136.getD x138.toNat (Ty.dflt Y40)).2.2.2.2.1, ((x136.getD x138.toNat (Ty.dflt Y40)).2.2.2.2.2.1, (x136.getD x138.toNat (Ty.dflt Y40)).2.2.2.2.2.2))))))).set x138.toNat (((x136.set x138.toNat (x137, (y190, ((IntKind.i64.wrap ((IntKind.i64.wrap (x137 + (1 : Int))) + (1 : Int))), ((x136.getD x138.toNat (Ty.dflt Y40)).2.2.2.1, ((x136.getD x138.toNat (Ty.dflt Y40)).2.2.2.2.1, ((x136.getD x138.toNat (Ty.dflt Y40)).2.2.2.2.2.1, (x136.getD x138.toNat (Ty.dflt Y40)).2.2.2.2.2.2))))))).getD x138.toNat (Ty.dflt Y40)).1, (((x136.set x138.toNat (x137, (y190, ((IntKind.i64.wrap ((IntKind.i64.wrap (x137 + (1 : Int))) + (1 : Int))), ((x136.getD x138.toNat (Ty.dflt Y40)).2.2.2.1, ((x136.getD x138.toNat (Ty.dflt Y40)).2.2.2.2.1, ((x136.getD x138.toNat (Ty.dflt Y40)).2.2.2.2.2.1, (x136.getD x138.toNat (Ty.dflt Y40)).2.2.2.2.2.2))))))).getD x138.toNat (Ty.dflt Y40)).2.1, (((x136.set x138.toNat (x137, (y190, ((IntKind.i64.wrap ((IntKind.i64.wrap (x137 + (1 : Int))) + (1 : Int))), ((x136.getD x138.toNat (Ty.dflt Y40)).2.2.2.1, ((x136.getD x138.toNat (Ty.dflt Y40)).2.2.2.2.1, ((x136.getD x138.toNat (Ty.dflt Y40)).2.2.2.2.2.1, (x136.getD x138.toNat (Ty.dflt Y40)).2.2.2.2.2.2))))))).getD x138.toNat (Ty.dflt Y40)).2.2.1, ((IntKind.i64.wrap ((IntKind.i64.wrap ((IntKind.i64.wrap (x137 + (1 : Int))) + (1 : Int))) + (1 : Int))), (((x136.set x138.toNat (x137, (y190, ((IntKind.i64.wrap ((IntKind.i64.wrap (x137 + (1 : Int))) + (1 : Int))), ((x136.getD x138.toNat (Ty.dflt Y40)).2.2.2.1, ((x136.getD x138.toNat (Ty.dflt Y40)).2.2.2.2.1, ((x136.getD x138.toNat (Ty.dflt Y40)).2.2.2.2.2.1, (x136.getD x138.toNat (Ty.dflt Y40)).2.2.2.2.2.2))))))).getD x138.toNat (Ty.dflt Y40)).2.2.2.2.1, (((x136.set x138.toNat (x137, (y190, ((IntKind.i64.wrap ((IntKind.i64.wrap (x137 + (1 : Int))) + (1 : Int))), ((x136.getD x138.toNat (Ty.dflt Y40)).2.2.2.1, ((x136.getD x138.toNat (Ty.dflt Y40)).2.2.2.2.1, ((x136.getD x138.toNat (Ty.dflt Y40)).2.2.2.2.2.1, (x136.getD x138.toNat (Ty.dflt Y40)).2.2.2.2.2.2))))))).getD x138.toNat (Ty.dflt Y40)).2.2.2.2.2.1, ((x136.set x138.toNat (x137, (y190, ((IntKind.i64.wrap ((IntKind.i64.wrap (x137 + (1 : Int))) + (1 : Int))), ((x136.getD x138.toNat (Ty.dflt Y40)).2.2.2.1, ((x136.getD x138.toNat (Ty.dflt Y40)).2.2.2.2.1, ((x136.getD x138.toNat (Ty.dflt Y40)).2.2.2.2.2.1, (x136.getD x138.toNat (Ty.dflt Y40)).2.2.2.2.2.2))))))).getD x138.toNat (Ty.dflt Y40)).2.2.2.2.2.2))))))) = (x136.set x138.toNat (x137, (y190, ((IntKind.i64.wrap ((IntKind.i64.wrap (x137 + (1 : Int))) + (1 : Int))), ((IntKind.i64.wrap ((IntKind.i64.wrap ((IntKind.i64.wrap (x137 + (1 : Int))) + (1 : Int))) + (1 : Int))), ((x136.getD x138.toNat (Ty.dflt Y40)).2.2.2.2.1, ((x136.getD x138.toNat (Ty.dflt Y40)).2.2.2.2.2.1, (x136.getD x138.toNat (Ty.dflt Y40)).2.2.2.2.2.2))))))) from set_upd x136 x138.toNat (x137, (y190, ((IntKind.i64.wrap ((IntKind.i64.wrap (x137 + (1 : Int))) + (1 : Int))), ((x136.getD x138.toNat (Ty.dflt Y40)).2.2.2.1, ((x136.getD x138.toNat (Ty.dflt Y40)).2.2.2.2.1, ((x136.getD x138.toNat (Ty.dflt Y40)).2.2.2.2.2.1, (x136.getD x138.toNat (Ty.dflt Y40)).2.2.2.2.2.2)))))) (Ty.dflt Y40) (fun z => (z.1, (z.2.1, (z.2.2.1, ((IntKind.i64.wrap ((IntKind.i64.wrap ((IntKind.i64.wrap (x137 + (1 : Int))) + (1 : Int))) + (1 : Int))), (z.2.2.2.2.1, (z.2.2.2.2.2.1, z.2.2.2.2.2.2))))))) (by simpa using g196)]
        refine VO.seg T_ok .dp 0 [0, 1, 5, 65536] [0] (s' := ⟨[(0, .lf (.hd 0 0 none)), (1, I (IntKind.i64.wrap ((IntKind.i64.wrap ((IntKind.i64.wrap (x137 + (1 : Int))) + (1 : Int))) + (1 : Int)))), (5, I x138), (65536, .lf (.hd 0 0 none))], [ar 0 Y40 (x136.set x138.toNat (x137, (y190, ((IntKind.i64.wrap ((IntKind.i64.wrap (x137 + (1 : Int))) + (1 : Int))), ((IntKind.i64.wrap ((IntKind.i64.wrap ((IntKind.i64.wrap (x137 + (1 : Int))) + (1 : Int))) + (1 : Int))), ((x136.getD x138.toNat (Ty.dflt Y40)).2.2.2.2.1, ((x136.getD x138.toNat (Ty.dflt Y40)).2.2.2.2.2.1, (x136.getD x138.toNat (Ty.dflt Y40)).2.2.2.2.2.2))))))) .dp]⟩) (φ := True) (by kernel_rfl) trivial ?_
        refine VO.nil ?_
        show VW _ _ _ _ _ _ _
        refine VW.seq ?_
        refine VW.region ?_
        refine VO.seg T_ok .dp 3 [0, 1, 5, 65536] [0] (s' := ⟨[(0, .lf (.hd 0 0 none)), (1, I (IntKind.i64.wrap ((IntKind.i64.wrap ((IntKind.i64.wrap ((IntKind.i64.wrap (x137 + (1 : Int))) + (1 : Int))) + (1 : Int))) + (1 : Int)))), (5, I x138), (65536, .lf (.hd 0 0 none))], [ar 0 Y40 (x136.set x138.toNat (x137, (y190, ((IntKind.i64.wrap ((IntKind.i64.wrap (x137 + (1 : Int))) + (1 : Int))), ((IntKind.i64.wrap ((IntKind.i64.wrap ((IntKind.i64.wrap (x137 + (1 : Int))) + (1 : Int))) + (1 : Int))), ((x136.getD x138.toNat (Ty.dflt Y40)).2.2.2.2.1, ((x136.getD x138.toNat (Ty.dflt Y40)).2.2.2.2.2.1, (x136.getD x138.toNat (Ty.dflt Y40)).2.2.2.2.2.2))))))) .dp]⟩) (φ := True ∧ True ∧ True ∧ True) (by kernel_rfl) ⟨trivial, trivial, trivial, trivial⟩ ?_
        refine VO.nil ?_
        show VW _ _ _ _ _ _ _
        refine VW.seq ?_
        refine VW.region ?_
        obtain ⟨g197, h⟩ := gd_some h
        obtain ⟨g198, h⟩ := gd_some h
        refine VO.seg T_ok .dp 6 [0, 1, 5, 65536] [0] (s' := ⟨[(0, .lf (.hd 0 0 none)), (1, I (IntKind.i64.wrap ((IntKind.i64.wrap ((IntKind.i64.wrap ((IntKind.i64.wrap (x137 + (1 : Int))) + (1 : Int))) + (1 : Int))) + (1 : Int)))), (5, I x138), (65536, .lf (.hd 0 0 none))], [ar 0 Y40 ((x136.set x138.toNat (x137, (y190, ((IntKind.i64.wrap ((IntKind.i64.wrap (x137 + (1 : Int))) + (1 : Int))), ((IntKind.i64.wrap ((IntKind.i64.wrap ((IntKind.i64.wrap (x137 + (1 : Int))) + (1 : Int))) + (1 : Int))), ((x136.getD x138.toNat (Ty.dflt Y40)).2.2.2.2.1, ((x136.getD x138.toNat (Ty.dflt Y40)).2.2.2.2.2.1, (x136.getD x138.toNat (Ty.dflt Y40)).2.2.2.2.2.2))))))).set x138.toNat (((x136.set x138.toNat (x137, (y190, ((IntKind.i64.wrap ((IntKind.i64.wrap (x137 + (1 : Int))) + (1 : Int))), ((IntKind.i64.wrap ((IntKind.i64.wrap ((IntKind.i64.wrap (x137 + (1 : Int))) + (1 : Int))) + (1 : Int))), ((x136.getD x138.toNat (Ty.dflt Y40)).2.2.2.2.1, ((x136.getD x138.toNat (Ty.dflt Y40)).2.2.2.2.2.1, (x136.getD x138.toNat (Ty.dflt Y40)).2.2.2.2.2.2))))))).getD x138.toNat (Ty.dflt Y40)).1, (((x136.set x138.toNat (x137, (y190, ((IntKind.i64.wrap ((IntKind.i64.wrap (x137 + (1 : Int))) + (1 : Int))), ((IntKind.i64.wrap ((IntKind.i64.wrap ((IntKind.i64.wrap (x137 + (1 : Int))) + (1 : Int))) + (1 : Int))), ((x136.getD x138.toNat (Ty.dflt Y40)).2.2.2.2.1, ((x136.getD x138.toNat (Ty.dflt Y40)).2.2.2.2.2.1, (x136.getD x138.toNat (Ty.dflt Y40)).2.2.2.2.2.2))))))).getD x138.toNat (Ty.dflt Y40)).2.1, (((x136.set x138.toNat (x137, (y190, ((IntKind.i64.wrap ((IntKind.i64.wrap (x137 + (1 : Int))) + (1 : Int))), ((IntKind.i64.wrap ((IntKind.i64.wrap ((IntKind.i64.wrap (x137 + (1 : Int))) + (1 : Int))) + (1 : Int))), ((x136.getD x138.toNat (Ty.dflt Y40)).2.2.2.2.1, ((x136.getD x138.toNat (Ty.dflt Y40)).2.2.2.2.2.1, (x136.getD x138.toNat (Ty.dflt Y40)).2.2.2.2.2.2))))))).getD x138.toNat (Ty.dflt Y40)).2.2.1, (((x136.set x138.toNat (x137, (y190, ((IntKind.i64.wrap ((IntKind.i64.wrap (x137 + (1 : Int))) + (1 : Int))), ((IntKind.i64.wrap ((IntKind.i64.wrap ((IntKind.i64.wrap (x137 + (1 : Int))) + (1 : Int))) + (1 : Int))), ((x136.getD x138.toNat (Ty.dflt Y40)).2.2.2.2.1, ((x136.getD x138.toNat (Ty.dflt Y40)).2.2.2.2.2.1, (x136.getD x138.toNat (Ty.dflt Y40)).2.2.2.2.2.2))))))).getD x138.toNat (Ty.dflt Y40)).2.2.2.1, ((IntKind.i64.wrap ((IntKind.i64.wrap ((IntKind.i64.wrap ((IntKind.i64.wrap (x137 + (1 : Int))) + (1 : Int))) + (1 : Int))) + (1 : Int))), (((x136.set x138.toNat (x137, (y190, ((IntKind.i64.wrap ((IntKind.i64.wrap (x137 + (1 : Int))) + (1 : Int))), ((IntKind.i64.wrap ((IntKind.i64.wrap ((IntKind.i64.wrap (x137 + (1 : Int))) + (1 : Int))) + (1 : Int))), ((x136.getD x138.toNat (Ty.dflt Y40)).2.2.2.2.1, ((x136.getD x138.toNat (Ty.dflt Y40)).2.2.2.2.2.1, (x136.getD x138.toNat (Ty.dflt Y40)).2.2.2.2.2.2))))))).getD x138.toNat (Ty.dflt Y40)).2.2.2.2.2.1, ((x136.set x138.toNat (x137, (y190, ((IntKind.i64.wrap ((IntKind.i64.wrap (x137 + (1 : Int))) + (1 : Int))), ((IntKind.i64.wrap ((IntKind.i64.wrap ((IntKind.i64.wrap (x137 + (1 : Int))) + (1 : Int))) + (1 : Int))), ((x136.getD x138.toNat (Ty.dflt Y40)).2.2.2.2.1, ((x136.getD x138.toNat (Ty.dflt Y40)).2.2.2.2.2.1, (x136.getD x138.toNat (Ty.dflt Y40)).2.2.2.2.2.2))))))).getD x138.toNat (Ty.dflt Y40)).2.2.2.2.2.2))))))) .dp]⟩) (φ := True ∧ True ∧ True ∧ (InR x138 (x136.set x138.toNat (x137, (y190, ((IntKind.i64.wrap ((IntKind.i64.wrap (x137 + (1 : Int))) + (1 : Int))), ((IntKind.i64.wrap ((IntKind.i64.wrap ((IntKind.i64.wrap (x137 + (1 : Int))) + (1 : Int))) + (1 : Int))), ((x136.getD x138.toNat (Ty.dflt Y40)).2.2.2.2.1, ((x136.getD x138.toNat (Ty.dflt Y40)).2.2.2.2.2.1, (x136.getD x138.toNat (Ty.dflt Y40)).2.2.2.2.2.2))))))).length) ∧ True ∧ (x138.toNat < (x136.set x138.toNat (x137, (y190, ((IntKind.i64.wrap ((IntKind.i64.wrap (x137 + (1 : Int))) + (1 : Int))), ((IntKind.i64.wrap ((IntKind.i64.wrap ((IntKind.i64.wrap (x137 + (1 : Int))) + (1 : Int))) + (1 : Int))), ((x136.getD x138.toNat (Ty.dflt Y40)).2.2.2.2.1, ((x136.getD x138.toNat (Ty.dflt Y40)).2.2.2.2.2.1, (x136.getD x138.toNat (Ty.dflt Y40)).2.2.2.2.2.2))))))).length) ∧ True) (by kernel_rfl) ⟨trivial, trivial, trivial, g197, trivial, g198, trivial⟩ ?_
        rw [show ((x136.set x138.toNat (x137, (y190, ((IntKind.i64.wrap ((IntKind.i64.wrap (x137 + (1 : Int))) + (1 : Int))), ((IntKind.i64.wrap ((IntKind.i64.wrap ((IntKind.i64.wrap (x137 + (1 : Int))) + (1 : Int))) + (1 : Int))), ((x136.getD x138.toNat (Ty.dflt Y40)).2.2.2.2.1, ((x136.getD x138.toNat (Ty.dflt Y40)).2.2.2.2.2.1, (x136.getD x138.toNat (Ty.dflt Y40)).2.2.2.2.2.2))))))).set x138.toNat (((x136.set x138.toNat (x137, (y190, ((IntKind.i64.wrap ((IntKind.i64.wrap (x137 + (1 : Int))) + (1 : Int))), ((IntKind.i64.wrap ((IntKind.i64.wrap ((IntKind.i64.wrap (x137 + (1 : Int))) + (1 : Int))) + (1 : Int))), ((x136.getD x138.toNat (Ty.dflt Y40)).2.2.2.2.1, ((x136.getD x138.toNat (Ty.dflt Y40)).2.2.2.2.2.1, (x136.getD x138.toNat (Ty.dflt Y40)).2.2.2.2.2.2))))))).getD x138.toNat (Ty.dflt Y40)).1, (((x136.set x138.toNat (x137, (y190, ((IntKind.i64.wrap ((IntKind.i64.wrap (x137 + (1 : Int))) + (1 : Int))), ((IntKind.i64.wrap ((IntKind.i64.wrap ((IntKind.i64.wrap (x137 + (1 : Int))) + (1 : Int))) + (1 : Int))), ((x136.getD x138.toNat (Ty.dflt Y40)).2.2.2.2.1, ((x136.getD x138.toNat (Ty.dflt Y40)).2.2.2.2.2.1, (x136.getD x138.toNat (Ty.dflt Y40)).2.2.2.2.2.2))))))).getD x138.toNat (Ty.dflt Y40)).2.1, (((x136.set x138.toNat (x137, (y190, ((IntKind.i64.wrap ((IntKind.i64.wrap (x137 + (1 : Int))) + (1 : Int))), ((IntKind.i64.wrap ((IntKind.i64.wrap ((IntKind.i64.wrap (x137 + (1 : Int))) + (1 : Int))) + (1 : Int))), ((x136.getD x138.toNat (Ty.dflt Y40)).2.2.2.2.1, ((x136.getD x138.toNat (Ty.dflt Y40)).2.2.2.2.2.1, (x136.getD x138.toNat (Ty.dflt Y40)).2.2.2.2.2.2))))))).getD x138.toNat (Ty.dflt Y40)).2.2.1, (((x136.set x138.toNat (x137, (y190, ((IntKind.i64.wrap ((IntKind.i64.wrap (x137 + (1 : Int))) + (1 : Int))), ((IntKind.i64.wrap ((IntKind.i64.wrap ((IntKind.i64.wrap (x137 + (1 : Int))) + (1 : Int))) + (1 : Int))), ((x136.getD x138.toNat (Ty.dflt Y40)).2.2.2.2.1, ((x136.getD x138.toNat (Ty.dflt Y40)).2.2.2.2.2.1, (x136.getD x138.toNat (Ty.dflt Y40)).2.2.2.2.2.2))))))).getD x138.toNat (Ty.dflt Y40)).2.2.2.1, ((IntKind.i64.wrap ((IntKind.i64.wrap ((IntKind.i64.wrap ((IntKind.i64.wrap (x137 + (1 : Int))) + (1 : Int))) + (1 : Int))) + (1 : Int))), (((x136.set x138.toNat (x137, (y190, ((IntKind.i64.wrap ((IntKind.i64.wrap (x137 + (1 : Int))) + (1 : Int))), ((IntKind.i64.wrap ((IntKind.i64.wrap ((IntKind.i64.wrap (x137 + (1 : Int))) + (1 : Int))) + (1 : Int))), ((x136.getD x138.toNat (Ty.dflt Y40)).2.2.2.2.1, ((x136.getD x138.toNat (Ty.dflt Y40)).2.2.2.2.2.1, (x136.getD x138.toNat (Ty.dflt Y40)).2.2.2.2.2.2))))))).getD x138.toNat (Ty.dflt Y40)).2.2.2.2.2.1, ((x136.set x138.toNat (x137, (y190, ((IntKind.i64.wrap ((IntKind.i64.wrap (x137 + (1 : Int))) + (1 : Int))), ((IntKind.i64.wrap ((IntKind.i64.wrap ((IntKind.i64.wrap (x137 + (1 : Int))) + (1 : Int))) + (1 : Int))), ((x136.getD x138.toNat (Ty.dflt Y40)).2.2.2.2.1, ((x136.getD x138.toNat (Ty.dflt Y40)).2.2.2.2.2.1, (x136.getD x138.toNat (Ty.dflt Y40)).2.2.2.2.2.2))))))).getD x138.toNat (Ty.dflt Y40)).2.2.2.2.2.2))))))) = (x136.set x138.toNat (x137, (y190, ((IntKind.i64.wrap ((IntKind.i64.wrap (x137 + (1 : Int))) + (1 : Int))), ((IntKind.i64.wrap ((IntKind.i64.wrap ((IntKind.i64.wrap (x137 + (1 : Int))) + (1 : Int))) + (1 : Int))), ((IntKind.i64.wrap ((IntKind.i64.wrap ((IntKind.i64.wrap ((IntKind.i64.wrap (x137 + (1 : Int))) + (1 : Int))) + (1 : Int))) + (1 : Int))), ((x136.getD x138.toNat (Ty.dflt Y40)).2.2.2.2.2.1, (x136.getD x138.toNat (Ty.dflt Y40)).2.2.2.2.2.2))))))) from set_upd x136 x138.toNat (x137, (y190, ((IntKind.i64.wrap ((IntKind.i64.wrap (x137 + (1 : Int))) + (1 : Int))), ((IntKind.i64.wrap ((IntKind.i64.wrap ((IntKind.i64.wrap (x137 + (1 : Int))) + (1 : Int))) + (1 : Int))), ((x136.getD x138.toNat (Ty.dflt Y40)).2.2.2.2.1, ((x136.getD x138.toNat (Ty.dflt Y40)).2.2.2.2.2.1, (x136.getD x138.toNat (Ty.dflt Y40)).2.2.2.2.2.2)))))) (Ty.dflt Y40) (fun z => (z.1, (z.2.1, (z.2.2.1, (z.2.2.2.1, ((IntKind.i64.wrap ((IntKind.i64.wrap ((IntKind.i64.wrap ((IntKind.i64.wrap (x137 + (1 : Int))) + (1 : Int))) + (1 : Int))) + (1 : Int))), (z.2.2.2.2.2.1, z.2.2.2.2.2.2))))))) (by simpa using g198)]
        refine VO.seg T_ok .dp 0 [0, 1, 5, 65536] [0] (s' := ⟨[(0, .lf (.hd 0 0 none)), (1, I (IntKind.i64.wrap ((IntKind.i64.wrap ((IntKind.i64.wrap ((IntKind.i64.wrap (x137 + (1 : Int))) + (1 : Int))) + (1 : Int))) + (1 : Int)))), (5, I x138), (65536, .lf (.hd 0 0 none))], [ar 0 Y40 (x136.set x138.toNat (x137, (y190, ((IntKind.i64.wrap ((IntKind.i64.wrap (x137 + (1 : Int))) + (1 : Int))), ((IntKind.i64.wrap ((IntKind.i64.wrap ((IntKind.i64.wrap (x137 + (1 : Int))) + (1 : Int))) + (1 : Int))), ((IntKind.i64.wrap ((IntKind.i64.wrap ((IntKind.i64.wrap ((IntKind.i64.wrap (x137 + (1 : Int))) + (1 : Int))) + (1 : Int))) + (1 : Int))), ((x136.getD x138.toNat (Ty.dflt Y40)).2.2.2.2.2.1, (x136.getD x138.toNat (Ty.dflt Y40)).2.2.2.2.2.2))))))) .dp]⟩) (φ := True) (by kernel_rfl) trivial ?_
        refine VO.nil ?_
        show VW _ _ _ _ _ _ _
        refine VW.seq ?_
        refine VW.region ?_
        refine VO.seg T_ok .dp 3 [0, 1, 5, 65536] [0] (s' := ⟨[(0, .lf (.hd 0 0 none)), (1, I (IntKind.i64.wrap ((IntKind.i64.wrap ((IntKind.i64.wrap ((IntKind.i64.wrap ((IntKind.i64.wrap (x137 + (1 : Int))) + (1 : Int))) + (1 : Int))) + (1 : Int))) + (1 : Int)))), (5, I x138), (65536, .lf (.hd 0 0 none))], [ar 0 Y40 (x136.set x138.toNat (x137, (y190, ((IntKind.i64.wrap ((IntKind.i64.wrap (x137 + (1 : Int))) + (1 : Int))), ((IntKind.i64.wrap ((IntKind.i64.wrap ((IntKind.i64.wrap (x137 + (1 : Int))) + (1 : Int))) + (1 : Int))), ((IntKind.i64.wrap ((IntKind.i64.wrap ((IntKind.i64.wrap ((IntKind.i64.wrap (x137 + (1 : Int))) + (1 : Int))) + (1 : Int))) + (1 : Int))), ((x136.getD x138.toNat (Ty.dflt Y40)).2.2.2.2.2.1, (x136.getD x138.toNat (Ty.dflt Y40)).2.2.2.2.2.2))))))) .dp]⟩) (φ := True ∧ True ∧ True ∧ True) (by kernel_rfl) ⟨trivial, trivial, trivial, trivial⟩ ?_
        refine VO.nil ?_
        show VW _ _ _ _ _ _ _
        refine VW.seq ?_
        refine VW.region ?_
        obtain ⟨g199, h⟩ := gd_some h
        obtain ⟨g200, h⟩ := gd_some h
        refine VO.seg T_ok .dp 8 [0, 1, 5, 65536] [0] (s' := ⟨[(0, .lf (.hd 0 0 none)), (1, I (IntKind.i64.wrap ((IntKind.i64.wrap ((IntKind.i64.wrap ((IntKind.i64.wrap ((IntKind.i64.wrap (x137 + (1 : Int))) + (1 : Int))) + (1 : Int))) + (1 : Int))) + (1 : Int)))), (5, I x138), (65536, .lf (.hd 0 0 none))], [ar 0 Y40 ((x136.set x138.toNat (x137, (y190, ((IntKind.i64.wrap ((IntKind.i64.wrap (x137 + (1 : Int))) + (1 : Int))), ((IntKind.i64.wrap ((IntKind.i64.wrap ((IntKind.i64.wrap (x137 + (1 : Int))) + (1 : Int))) + (1 : Int))), ((IntKind.i64.wrap ((IntKind.i64.wrap ((IntKind.i64.wrap ((IntKind.i64.wrap (x137 + (1 : Int))) + (1 : Int))) + (1 : Int))) + (1 : Int))), ((x136.getD x138.toNat (Ty.dflt Y40)).2.2.2.2.2.1, (x136.getD x138.toNat (Ty.dflt Y40)).2.2.2.2.2.2))))))).set x138.toNat (((x136.set x138.toNat (x137, (y190, ((IntKind.i64.wrap ((IntKind.i64.wrap (x137 + (1 : Int))) + (1 : Int))), ((IntKind.i64.wrap ((IntKind.i64.wrap ((IntKind.i64.wrap (x137 + (1 : Int))) + (1 : Int))) + (1 : Int))), ((IntKind.i64.wrap ((IntKind.i64.wrap ((IntKind.i64.wrap ((IntKind.i64.wrap (x137 + (1 : Int))) + (1 : Int))) + (1 : Int))) + (1 : Int))), ((x136.getD x138.toNat (Ty.dflt Y40)).2.2.2.2.2.1, (x136.getD x138.toNat (Ty.dflt Y40)).2.2.2.2.2.2))))))).getD x138.toNat (Ty.dflt Y40)).1, (((x136.set x138.toNat (x137, (y190, ((IntKind.i64.wrap ((IntKind.i64.wrap (x137 + (1 : Int))) + (1 : Int))), ((IntKind.i64.wrap ((IntKind.i64.wrap ((IntKind.i64.wrap (x137 + (1 : Int))) + (1 : Int))) + (1 : Int))), ((IntKind.i64.wrap ((IntKind.i64.wrap ((IntKind.i64.wrap ((IntKind.i64.wrap (x137 + (1 : Int))) + (1 : Int))) + (1 : Int))) + (1 : Int))), ((x136.getD x138.toNat (Ty.dflt Y40)).2.2.2.2.2.1, (x136.getD x138.toNat (Ty.dflt Y40)).2.2.2.2.2.2))))))).getD x138.toNat (Ty.dflt Y40)).2.1, (((x136.set x138.toNat (x137, (y190, ((IntKind.i64.wrap ((IntKind.i64.wrap (x137 + (1 : Int))) + (1 : Int))), ((IntKind.i64.wrap ((IntKind.i64.wrap ((IntKind.i64.wrap (x137 + (1 : Int))) + (1 : Int))) + (1 : Int))), ((IntKind.i64.wrap ((IntKind.i64.wrap ((IntKind.i64.wrap ((IntKind.i64.wrap (x137 + (1 : Int))) + (1 : Int))) + (1 : Int))) + (1 : Int))), ((x136.getD x138.toNat (Ty.dflt Y40)).2.2.2.2.2.1, (x136.getD x138.toNat (Ty.dflt Y40)).2.2.2.2.2.2))))))).getD x138.toNat (Ty.dflt Y40)).2.2.1, (((x136.set x138.toNat (x137, (y190, ((IntKind.i64.wrap ((IntKind.i64.wrap (x137 + (1 : Int))) + (1 : Int))), ((IntKind.i64.wrap ((IntKind.i64.wrap ((IntKind.i64.wrap (x137 + (1 : Int))) + (1 : Int))) + (1 : Int))), ((IntKind.i64.wrap ((IntKind.i64.wrap ((IntKind.i64.wrap ((IntKind.i64.wrap (x137 + (1 : Int))) + (1 : Int))) + (1 : Int))) + (1 : Int))), ((x136.getD x138.toNat (Ty.dflt Y40)).2.2.2.2.2.1, (x136.getD x138.toNat (Ty.dflt Y40)).2.2.2.2.2.2))))))).getD x138.toNat (Ty.dflt Y40)).2.2.2.1, (((x136.set x138.toNat (x137, (y190, ((IntKind.i64.wrap ((IntKind.i64.wrap (x137 + (1 : Int))) + (1 : Int))), ((IntKind.i64.wrap ((IntKind.i64.wrap ((IntKind.i64.wrap (x137 + (1 : Int))) + (1 : Int))) + (1 : Int))), ((IntKind.i64.wrap ((IntKind.i64.wrap ((IntKind.i64.wrap ((IntKind.i64.wrap (x137 + (1 : Int))) + (1 : Int))) + (1 : Int))) + (1 : Int))), ((x136.getD x138.toNat (Ty.dflt Y40)).2.2.2.2.2.1, (x136.getD x138.toNat (Ty.dflt Y40)).2.2.2.2.2.2))))))).getD x138.toNat (Ty.dflt Y40)).2.2.2.2.1, (((Int.tmod (IntKind.i64.wrap ((IntKind.i64.wrap ((IntKind.i64.wrap ((IntKind.i64.wrap ((IntKind.i64.wrap (x137 + (1 : Int))) + (1 : Int))) + (1 : Int))) + (1 : Int))) + (1 : Int))) (3 : Int)) == (0 : Int)), ((x136.set x138.toNat (x137, (y190, ((IntKind.i64.wrap ((IntKind.i64.wrap (x137 + (1 : Int))) + (1 : Int))), ((IntKind.i64.wrap ((IntKind.i64.wrap ((IntKind.i64.wrap (x137 + (1 : Int))) + (1 : Int))) + (1 : Int))), ((IntKind.i64.wrap ((IntKind.i64.wrap ((IntKind.i64.wrap ((IntKind.i64.wrap (x137 + (1 : Int))) + (1 : Int))) + (1 : Int))) + (1 : Int))), ((x136.getD x138.toNat (Ty.dflt Y40)).2.2.2.2.2.1, (x136.getD x138.toNat (Ty.dflt Y40)).2.2.2.2.2.2))))))).getD x138.toNat (Ty.dflt Y40)).2.2.2.2.2.2))))))) .dp]⟩) (φ := True ∧ True ∧ True ∧ ((3 : Int) ≠ 0) ∧ True ∧ (InR x138 (x136.set x138.toNat (x137, (y190, ((IntKind.i64.wrap ((IntKind.i64.wrap (x137 + (1 : Int))) + (1 : Int))), ((IntKind.i64.wrap ((IntKind.i64.wrap ((IntKind.i64.wrap (x137 + (1 : Int))) + (1 : Int))) + (1 : Int))), ((IntKind.i64.wrap ((IntKind.i64.wrap ((IntKind.i64.wrap ((IntKind.i64.wrap (x137 + (1 : Int))) + (1 : Int))) + (1 : Int))) + (1 : Int))), ((x136.getD x138.toNat (Ty.dflt Y40)).2.2.2.2.2.1, (x136.getD x138.toNat (Ty.dflt Y40)).2.2.2.2.2.2))))))).length) ∧ True ∧ (x138.toNat < (x136.set x138.toNat (x137, (y190, ((IntKind.i64.wrap ((IntKind.i64.wrap (x137 + (1 : Int))) + (1 : Int))), ((IntKind.i64.wrap ((IntKind.i64.wrap ((IntKind.i64.wrap (x137 + (1 : Int))) + (1 : Int))) + (1 : Int))), ((IntKind.i64.wrap ((IntKind.i64.wrap ((IntKind.i64.wrap ((IntKind.i64.wrap (x137 + (1 : Int))) + (1 : Int))) + (1 : Int))) + (1 : Int))), ((x136.getD x138.toNat (Ty.dflt Y40)).2.2.2.2.2.1, (x136.getD x138.toNat (Ty.dflt Y40)).2.2.2.2.2.2))))))).length) ∧ True) (by kernel_rfl) ⟨trivial, trivial, trivial, (by decide), trivial, g199, trivial, g200, trivial⟩ ?_
        rw [show ((x136.set x138.toNat (x137, (y190, ((IntKind.i64.wrap ((IntKind.i64.wrap (x137 + (1 : Int))) + (1 : Int))), ((IntKind.i64.wrap ((IntKind.i64.wrap ((IntKind.i64.wrap (x137 + (1 : Int))) + (1 : Int))) + (1 : Int))), ((IntKind.i64.wrap ((IntKind.i64.wrap ((IntKind.i64.wrap ((IntKind.i64.wrap (x137 + (1 : Int))) + (1 : Int))) + (1 : Int))) + (1 : Int))), ((x136.getD x138.toNat (Ty.dflt Y40)).2.2.2.2.2.1, (x136.getD x138.toNat (Ty.dflt Y40)).2.2.2.2.2.2))))))).set x138.toNat (((x136.set x138.toNat (x137, (y190, ((IntKind.i64.wrap ((IntKind.i64.wrap (x137 + (1 : Int))) + (1 : Int))), ((IntKind.i64.wrap ((IntKind.i64.wrap ((IntKind.i64.wrap (x137 + (1 : Int))) + (1 : Int))) + (1 : Int))), ((IntKind.i64.wrap ((IntKind.i64.wrap ((IntKind.i64.wrap ((IntKind.i64.wrap (x137 + (1 : Int))) + (1 : Int))) + (1 : Int))) + (1 : Int))), ((x136.getD x138.toNat (Ty.dflt Y40)).2.2.2.2.2.1, (x136.getD x138.toNat (Ty.dflt Y40)).2.2.2.2.2.2))))))).getD x138.toNat (Ty.dflt Y40)).1, (((x136.set x138.toNat (x137, (y190, ((IntKind.i64.wrap ((IntKind.i64.wrap (x137 + (1 : Int))) + (1 : Int))), ((IntKind.i64.wrap ((IntKind.i64.wrap ((IntKind.i64.wrap (x137 + (1 : Int))) + (1 : Int))) + (1 : Int))), ((IntKind.i64.wrap ((IntKind.i64.wrap ((IntKind.i64.wrap ((IntKind.i64.wrap (x137 + (1 : Int))) + (1 : Int))) + (1 : Int))) + (1 : Int))), ((x136.getD x138.toNat (Ty.dflt Y40)).2.2.2.2.2.1, (x136.getD x138.toNat (Ty.dflt Y40)).2.2.2.2.2.2))))))).getD x138.toNat (Ty.dflt Y40)).2.1, (((x136.set x138.toNat (x137, (y190, ((IntKind.i64.wrap ((IntKind.i64.wrap (x137 + (1 : Int))) + (1 : Int))), ((IntKind.i64.wrap ((IntKind.i64.wrap ((IntKind.i64.wrap (x137 + (1 : Int))) + (1 : Int))) + (1 : Int))), ((IntKind.i64.wrap ((IntKind.i64.wrap ((IntKind.i64.wrap ((IntKind.i64.wrap (x137 + (1 : Int))) + (1 : Int))) + (1 : Int))) + (1 : Int))), ((x136.getD x138.toNat (Ty.dflt Y40)).2.2.2.2.2.1, (x136.getD x138.toNat (Ty.dflt Y40)).2.2.2.2.2.2))))))).getD x138.toNat (Ty.dflt Y40)).2.2.1, (((x136.set x138.toNat (x137, (y190, ((IntKind.i64.wrap ((IntKind.i64.wrap (x137 + (1 : Int))) + (1 : Int))), ((IntKind.i64.wrap ((IntKind.i64.wrap ((IntKind.i64.wrap (x137 + (1 : Int))) + (1 : Int))) + (1 : Int))), ((IntKind.i64.wrap ((IntKind.i64.wrap ((IntKind.i64.wrap ((IntKind.i64.wrap (x137 + (1 : Int))) + (1 : Int))) + (1 : Int))) + (1 : Int))), ((x136.getD x138.toNat (Ty.dflt Y40)).2.2.2.2.2.1, (x136.getD x138.toNat (Ty.dflt Y40)).2.2.2.2.2.2))))))).getD x138.toNat (Ty.dflt Y40)).2.2.2.1, (((x136.set x138.toNat (x137, (y190, ((IntKind.i64.wrap ((IntKind.i64.wrap (x137 + (1 : Int))) + (1 : Int))), ((IntKind.i64.wrap ((IntKind.i64.wrap ((IntKind.i64.wrap (x137 + (1 : Int))) + (1 : Int))) + (1 : Int))), ((IntKind.i64.wrap ((IntKind.i64.wrap ((IntKind.i64.wrap ((IntKind.i64.wrap (x137 + (1 : Int))) + (1 : Int))) + (1 : Int))) + (1 : Int))), ((x136.getD x138.toNat (Ty.dflt Y40)).2.2.2.2.2.1, (x136.getD x138.toNat (Ty.dflt Y40)).2.2.2.2.2.2))))))).getD x138.toNat (Ty.dflt Y40)).2.2.2.2.1, (((Int.tmod (IntKind.i64.wrap ((IntKind.i64.wrap ((IntKind.i64.wrap ((IntKind.i64.wrap ((IntKind.i64.wrap (x137 + (1 : Int))) + (1 : Int))) + (1 : Int))) + (1 : Int))) + (1 : Int))) (3 : Int)) == (0 : Int)), ((x136.set x138.toNat (x137, (y190, ((IntKind.i64.wrap ((IntKind.i64.wrap (x137 + (1 : Int))) + (1 : Int))), ((IntKind.i64.wrap ((IntKind.i64.wrap ((IntKind.i64.wrap (x137 + (1 : Int))) + (1 : Int))) + (1 : Int))), ((IntKind.i64.wrap ((IntKind.i64.wrap ((IntKind.i64.wrap ((IntKind.i64.wrap (x137 + (1 : Int))) + (1 : Int))) + (1 : Int))) + (1 : Int))), ((x136.getD x138.toNat (Ty.dflt Y40)).2.2.2.2.2.1, (x136.getD x138.toNat (Ty.dflt Y40)).2.2.2.2.2.2))))))).getD x138.toNat (Ty.dflt Y40)).2.2.2.2.2.2))))))) = (x136.set x138.toNat (x137, (y190, ((IntKind.i64.wrap ((IntKind.i64.wrap (x137 + (1 : Int))) + (1 : Int))), ((IntKind.i64.wrap ((IntKind.i64.wrap ((IntKind.i64.wrap (x137 + (1 : Int))) + (1 : Int))) + (1 : Int))), ((IntKind.i64.wrap ((IntKind.i64.wrap ((IntKind.i64.wrap ((IntKind.i64.wrap (x137 + (1 : Int))) + (1 : Int))) + (1 : Int))) + (1 : Int))), (((Int.tmod (IntKind.i64.wrap ((IntKind.i64.wrap ((IntKind.i64.wrap ((IntKind.i64.wrap ((IntKind.i64.wrap (x137 + (1 : Int))) + (1 : Int))) + (1 : Int))) + (1 : Int))) + (1 : Int))) (3 : Int)) == (0 : Int)), (x136.getD x138.toNat (Ty.dflt Y40)).2.2.2.2.2.2))))))) from set_upd x136 x138.toNat (x137, (y190, ((IntKind.i64.wrap ((IntKind.i64.wrap (x137 + (1 : Int))) + (1 : Int))), ((IntKind.i64.wrap ((IntKind.i64.wrap ((IntKind.i64.wrap (x137 + (1 : Int))) + (1 : Int))) + (1 : Int))), ((IntKind.i64.wrap ((IntKind.i64.wrap ((IntKind.i64.wrap ((IntKind.i64.wrap (x137 + (1 : Int))) + (1 : Int))) + (1 : Int))) + (1 : Int))), ((x136.getD x138.toNat (Ty.dflt Y40)).2.2.2.2.2.1, (x136.getD x138.toNat (Ty.dflt Y40)).2.2.2.2.2.2)))))) (Ty.dflt Y40) (fun z => (z.1, (z.2.1, (z.2.2.1, (z.2.2.2.1, (z.2.2.2.2.1, (((Int.tmod (IntKind.i64.wrap ((IntKind.i64.wrap ((IntKind.i64.wrap ((IntKind.i64.wrap ((IntKind.i64.wrap (x137 + (1 : Int))) + (1 : Int))) + (1 : Int))) + (1 : Int))) + (1 : Int))) (3 : Int)) == (0 : Int)), z.2.2.2.2.2.2))))))) (by simpa using g200)]
        refine VO.seg T_ok .dp 0 [0, 1, 5, 65536] [0] (s' := ⟨[(0, .lf (.hd 0 0 none)), (1, I (IntKind.i64.wrap ((IntKind.i64.wrap ((IntKind.i64.wrap ((IntKind.i64.wrap ((IntKind.i64.wrap (x137 + (1 : Int))) + (1 : Int))) + (1 : Int))) + (1 : Int))) + (1 : Int)))), (5, I x138), (65536, .lf (.hd 0 0 none))], [ar 0 Y40 (x136.set x138.toNat (x137, (y190, ((IntKind.i64.wrap ((IntKind.i64.wrap (x137 + (1 : Int))) + (1 : Int))), ((IntKind.i64.wrap ((IntKind.i64.wrap ((IntKind.i64.wrap (x137 + (1 : Int))) + (1 : Int))) + (1 : Int))), ((IntKind.i64.wrap ((IntKind.i64.wrap ((IntKind.i64.wrap ((IntKind.i64.wrap (x137 + (1 : Int))) + (1 : Int))) + (1 : Int))) + (1 : Int))), (((Int.tmod (IntKind.i64.wrap ((IntKind.i64.wrap ((IntKind.i64.wrap ((IntKind.i64.wrap ((IntKind.i64.wrap (x137 + (1 : Int))) + (1 : Int))) + (1 : Int))) + (1 : Int))) + (1 : Int))) (3 : Int)) == (0 : Int)), (x136.getD x138.toNat (Ty.dflt Y40)).2.2.2.2.2.2))))))) .dp]⟩) (φ := True) (by kernel_rfl) trivial ?_
        refine VO.nil ?_
        show VW _ _ _ _ _ _ _
        refine VW.seq ?_
        refine VW.region ?_
        refine VO.seg T_ok .dp 3 [0, 1, 5, 65536] [0] (s' := ⟨[(0, .lf (.hd 0 0 none)), (1, I (IntKind.i64.wrap ((IntKind.i64.wrap ((IntKind.i64.wrap ((IntKind.i64.wrap ((IntKind.i64.wrap ((IntKind.i64.wrap (x137 + (1 : Int))) + (1 : Int))) + (1 : Int))) + (1 : Int))) + (1 : Int))) + (1 : Int)))), (5, I x138), (65536, .lf (.hd 0 0 none))], [ar 0 Y40 (x136.set x138.toNat (x137, (y190, ((IntKind.i64.wrap ((IntKind.i64.wrap (x137 + (1 : Int))) + (1 : Int))), ((IntKind.i64.wrap ((IntKind.i64.wrap ((IntKind.i64.wrap (x137 + (1 : Int))) + (1 : Int))) + (1 : Int))), ((IntKind.i64.wrap ((IntKind.i64.wrap ((IntKind.i64.wrap ((IntKind.i64.wrap (x137 + (1 : Int))) + (1 : Int))) + (1 : Int))) + (1 : Int))), (((Int.tmod (IntKind.i64.wrap ((IntKind.i64.wrap ((IntKind.i64.wrap ((IntKind.i64.wrap ((IntKind.i64.wrap (x137 + (1 : Int))) + (1 : Int))) + (1 : Int))) + (1 : Int))) + (1 : Int))) (3 : Int)) == (0 : Int)), (x136.getD x138.toNat (Ty.dflt Y40)).2.2.2.2.2.2))))))) .dp]⟩) (φ := True ∧ True ∧ True ∧ True) (by kernel_rfl) ⟨trivial, trivial, trivial, trivial⟩ ?_
        refine VO.nil ?_
        show VW _ _ _ _ _ _ _
        refine VW.region ?_
        obtain ⟨g201, h⟩ := gd_some h
        refine VO.seg T_ok .dp 4 [0, 1, 5, 60, 65536] [0] (s' := ⟨[(0, .lf (.hd 0 0 none)), (1, I (IntKind.i64.wrap ((IntKind.i64.wrap ((IntKind.i64.wrap ((IntKind.i64.wrap ((IntKind.i64.wrap ((IntKind.i64.wrap (x137 + (1 : Int))) + (1 : Int))) + (1 : Int))) + (1 : Int))) + (1 : Int))) + (1 : Int)))), (5, I x138), (60, .lf (.ptr 0 0 x138.toNat 6)), (65536, .lf (.hd 0 0 none))], [ar 0 Y40 (x136.set x138.toNat (x137, (y190, ((IntKind.i64.wrap ((IntKind.i64.wrap (x137 + (1 : Int))) + (1 : Int))), ((IntKind.i64.wrap ((IntKind.i64.wrap ((IntKind.i64.wrap (x137 + (1 : Int))) + (1 : Int))) + (1 : Int))), ((IntKind.i64.wrap ((IntKind.i64.wrap ((IntKind.i64.wrap ((IntKind.i64.wrap (x137 + (1 : Int))) + (1 : Int))) + (1 : Int))) + (1 : Int))), (((Int.tmod (IntKind.i64.wrap ((IntKind.i64.wrap ((IntKind.i64.wrap ((IntKind.i64.wrap ((IntKind.i64.wrap (x137 + (1 : Int))) + (1 : Int))) + (1 : Int))) + (1 : Int))) + (1 : Int))) (3 : Int)) == (0 : Int)), (x136.getD x138.toNat (Ty.dflt Y40)).2.2.2.2.2.2))))))) .dp]⟩) (φ := True ∧ True ∧ (InR x138 (x136.set x138.toNat (x137, (y190, ((IntKind.i64.wrap ((IntKind.i64.wrap (x137 + (1 : Int))) + (1 : Int))), ((IntKind.i64.wrap ((IntKind.i64.wrap ((IntKind.i64.wrap (x137 + (1 : Int))) + (1 : Int))) + (1 : Int))), ((IntKind.i64.wrap ((IntKind.i64.wrap ((IntKind.i64.wrap ((IntKind.i64.wrap (x137 + (1 : Int))) + (1 : Int))) + (1 : Int))) + (1 : Int))), (((Int.tmod (IntKind.i64.wrap ((IntKind.i64.wrap ((IntKind.i64.wrap ((IntKind.i64.wrap ((IntKind.i64.wrap (x137 + (1 : Int))) + (1 : Int))) + (1 : Int))) + (1 : Int))) + (1 : Int))) (3 : Int)) == (0 : Int)), (x136.getD x138.toNat (Ty.dflt Y40)).2.2.2.2.2.2))))))).length) ∧ True ∧ True) (by kernel_rfl) ⟨trivial, trivial, g201, trivial, trivial⟩ ?_
        obtain ⟨g203, h⟩ := gd_some h
        obtain ⟨y202, hy, h⟩ := andO_some h
        refine VO.lendIn (t := 23) (d1 := 61) (d2 := 62) (d3 := 63) (id := 0) (cur := 0) (i := x138.toNat) (j := 6) (v2 := I (IntKind.i64.wrap ((IntKind.i64.wrap ((IntKind.i64.wrap ((IntKind.i64.wrap ((IntKind.i64.wrap ((IntKind.i64.wrap (x137 + (1 : Int))) + (1 : Int))) + (1 : Int))) + (1 : Int))) + (1 : Int))) + (1 : Int)))) (f := 14) (l := [I (IntKind.i64.wrap ((IntKind.i64.wrap ((IntKind.i64.wrap ((IntKind.i64.wrap ((IntKind.i64.wrap ((IntKind.i64.wrap (x137 + (1 : Int))) + (1 : Int))) + (1 : Int))) + (1 : Int))) + (1 : Int))) + (1 : Int)))]) (e := Y40) (t' := (.int .i64)) (xs := (x136.set x138.toNat (x137, (y190, ((IntKind.i64.wrap ((IntKind.i64.wrap (x137 + (1 : Int))) + (1 : Int))), ((IntKind.i64.wrap ((IntKind.i64.wrap ((IntKind.i64.wrap (x137 + (1 : Int))) + (1 : Int))) + (1 : Int))), ((IntKind.i64.wrap ((IntKind.i64.wrap ((IntKind.i64.wrap ((IntKind.i64.wrap (x137 + (1 : Int))) + (1 : Int))) + (1 : Int))) + (1 : Int))), (((Int.tmod (IntKind.i64.wrap ((IntKind.i64.wrap ((IntKind.i64.wrap ((IntKind.i64.wrap ((IntKind.i64.wrap (x137 + (1 : Int))) + (1 : Int))) + (1 : Int))) + (1 : Int))) + (1 : Int))) (3 : Int)) == (0 : Int)), (x136.getD x138.toNat (Ty.dflt Y40)).2.2.2.2.2.2)))))))) (ys := (((x136.set x138.toNat (x137, (y190, ((IntKind.i64.wrap ((IntKind.i64.wrap (x137 + (1 : Int))) + (1 : Int))), ((IntKind.i64.wrap ((IntKind.i64.wrap ((IntKind.i64.wrap (x137 + (1 : Int))) + (1 : Int))) + (1 : Int))), ((IntKind.i64.wrap ((IntKind.i64.wrap ((IntKind.i64.wrap ((IntKind.i64.wrap (x137 + (1 : Int))) + (1 : Int))) + (1 : Int))) + (1 : Int))), (((Int.tmod (IntKind.i64.wrap ((IntKind.i64.wrap ((IntKind.i64.wrap ((IntKind.i64.wrap ((IntKind.i64.wrap (x137 + (1 : Int))) + (1 : Int))) + (1 : Int))) + (1 : Int))) + (1 : Int))) (3 : Int)) == (0 : Int)), (x136.getD x138.toNat (Ty.dflt Y40)).2.2.2.2.2.2))))))).getD x138.toNat (Ty.dflt Y40)).2.2.2.2.2.2)) (ys' := y202.1) (x' := (((x136.set x138.toNat (x137, (y190, ((IntKind.i64.wrap ((IntKind.i64.wrap (x137 + (1 : Int))) + (1 : Int))), ((IntKind.i64.wrap ((IntKind.i64.wrap ((IntKind.i64.wrap (x137 + (1 : Int))) + (1 : Int))) + (1 : Int))), ((IntKind.i64.wrap ((IntKind.i64.wrap ((IntKind.i64.wrap ((IntKind.i64.wrap (x137 + (1 : Int))) + (1 : Int))) + (1 : Int))) + (1 : Int))), (((Int.tmod (IntKind.i64.wrap ((IntKind.i64.wrap ((IntKind.i64.wrap ((IntKind.i64.wrap ((IntKind.i64.wrap (x137 + (1 : Int))) + (1 : Int))) + (1 : Int))) + (1 : Int))) + (1 : Int))) (3 : Int)) == (0 : Int)), (x136.getD x138.toNat (Ty.dflt Y40)).2.2.2.2.2.2))))))).getD x138.toNat (Ty.dflt Y40)).1, (((x136.set x138.toNat (x137, (y190, ((IntKind.i64.wrap ((IntKind.i64.wrap (x137 + (1 : Int))) + (1 : Int))), ((IntKind.i64.wrap ((IntKind.i64.wrap ((IntKind.i64.wrap (x137 + (1 : Int))) + (1 : Int))) + (1 : Int))), ((IntKind.i64.wrap ((IntKind.i64.wrap ((IntKind.i64.wrap ((IntKind.i64.wrap (x137 + (1 : Int))) + (1 : Int))) + (1 : Int))) + (1 : Int))), (((Int.tmod (IntKind.i64.wrap ((IntKind.i64.wrap ((IntKind.i64.wrap ((IntKind.i64.wrap ((IntKind.i64.wrap (x137 + (1 : Int))) + (1 : Int))) + (1 : Int))) + (1 : Int))) + (1 : Int))) (3 : Int)) == (0 : Int)), (x136.getD x138.toNat (Ty.dflt Y40)).2.2.2.2.2.2))))))).getD x138.toNat (Ty.dflt Y40)).2.1, (((x136.set x138.toNat (x137, (y190, ((IntKind.i64.wrap ((IntKind.i64.wrap (x137 + (1 : Int))) + (1 : Int))), ((IntKind.i64.wrap ((IntKind.i64.wrap ((IntKind.i64.wrap (x137 + (1 : Int))) + (1 : Int))) + (1 : Int))), ((IntKind.i64.wrap ((IntKind.i64.wrap ((IntKind.i64.wrap ((IntKind.i64.wrap (x137 + (1 : Int))) + (1 : Int))) + (1 : Int))) + (1 : Int))), (((Int.tmod (IntKind.i64.wrap ((IntKind.i64.wrap ((IntKind.i64.wrap ((IntKind.i64.wrap ((IntKind.i64.wrap (x137 + (1 : Int))) + (1 : Int))) + (1 : Int))) + (1 : Int))) + (1 : Int))) (3 : Int)) == (0 : Int)), (x136.getD x138.toNat (Ty.dflt Y40)).2.2.2.2.2.2))))))).getD x138.toNat (Ty.dflt Y40)).2.2.1, (((x136.set x138.toNat (x137, (y190, ((IntKind.i64.wrap ((IntKind.i64.wrap (x137 + (1 : Int))) + (1 : Int))), ((IntKind.i64.wrap ((IntKind.i64.wrap ((IntKind.i64.wrap (x137 + (1 : Int))) + (1 : Int))) + (1 : Int))), ((IntKind.i64.wrap ((IntKind.i64.wrap ((IntKind.i64.wrap ((IntKind.i64.wrap (x137 + (1 : Int))) + (1 : Int))) + (1 : Int))) + (1 : Int))), (((Int.tmod (IntKind.i64.wrap ((IntKind.i64.wrap ((IntKind.i64.wrap ((IntKind.i64.wrap ((IntKind.i64.wrap (x137 + (1 : Int))) + (1 : Int))) + (1 : Int))) + (1 : Int))) + (1 : Int))) (3 : Int)) == (0 : Int)), (x136.getD x138.toNat (Ty.dflt Y40)).2.2.2.2.2.2))))))).getD x138.toNat (Ty.dflt Y40)).2.2.2.1, (((x136.set x138.toNat (x137, (y190, ((IntKind.i64.wrap ((IntKind.i64.wrap (x137 + (1 : Int))) + (1 : Int))), ((IntKind.i64.wrap ((IntKind.i64.wrap ((IntKind.i64.wrap (x137 + (1 : Int))) + (1 : Int))) + (1 : Int))), ((IntKind.i64.wrap ((IntKind.i64.wrap ((IntKind.i64.wrap ((IntKind.i64.wrap (x137 + (1 : Int))) + (1 : Int))) + (1 : Int))) + (1 : Int))), (((Int.tmod (IntKind.i64.wrap ((IntKind.i64.wrap ((IntKind.i64.wrap ((IntKind.i64.wrap ((IntKind.i64.wrap (x137 + (1 : Int))) + (1 : Int))) + (1 : Int))) + (1 : Int))) + (1 : Int))) (3 : Int)) == (0 : Int)), (x136.getD x138.toNat (Ty.dflt Y40)).2.2.2.2.2.2))))))).getD x138.toNat (Ty.dflt Y40)).2.2.2.2.1, (((x136.set x138.toNat (x137, (y190, ((IntKind.i64.wrap ((IntKind.i64.wrap (x137 + (1 : Int))) + (1 : Int))), ((IntKind.i64.wrap ((IntKind.i64.wrap ((IntKind.i64.wrap (x137 + (1 : Int))) + (1 : Int))) + (1 : Int))), ((IntKind.i64.wrap ((IntKind.i64.wrap ((IntKind.i64.wrap ((IntKind.i64.wrap (x137 + (1 : Int))) + (1 : Int))) + (1 : Int))) + (1 : Int))), (((Int.tmod (IntKind.i64.wrap ((IntKind.i64.wrap ((IntKind.i64.wrap ((IntKind.i64.wrap ((IntKind.i64.wrap (x137 + (1 : Int))) + (1 : Int))) + (1 : Int))) + (1 : Int))) + (1 : Int))) (3 : Int)) == (0 : Int)), (x136.getD x138.toNat (Ty.dflt Y40)).2.2.2.2.2.2))))))).getD x138.toNat (Ty.dflt Y40)).2.2.2.2.2.1, y202.1))))))) (rs := [.lf (.v (.int .i64) y202.2)]) (v1 := 0) T_ok (by kernel_rfl) (by kernel_rfl) (by kernel_rfl) (by kernel_rfl) (by kernel_rfl) g203 (ok14 N _ _ hy) rfl ?_
        refine VO.seg T_ok .dp 1 [0, 1, 5, 65536] [0] (s' := ⟨[(0, .lf (.hd 0 0 none)), (1, I y202.2), (5, I x138), (65536, .lf (.hd 0 0 none))], [ar 0 Y40 ((x136.set x138.toNat (x137, (y190, ((IntKind.i64.wrap ((IntKind.i64.wrap (x137 + (1 : Int))) + (1 : Int))), ((IntKind.i64.wrap ((IntKind.i64.wrap ((IntKind.i64.wrap (x137 + (1 : Int))) + (1 : Int))) + (1 : Int))), ((IntKind.i64.wrap ((IntKind.i64.wrap ((IntKind.i64.wrap ((IntKind.i64.wrap (x137 + (1 : Int))) + (1 : Int))) + (1 : Int))) + (1 : Int))), (((Int.tmod (IntKind.i64.wrap ((IntKind.i64.wrap ((IntKind.i64.wrap ((IntKind.i64.wrap ((IntKind.i64.wrap (x137 + (1 : Int))) + (1 : Int))) + (1 : Int))) + (1 : Int))) + (1 : Int))) (3 : Int)) == (0 : Int)), (x136.getD x138.toNat (Ty.dflt Y40)).2.2.2.2.2.2))))))).set x138.toNat (((x136.set x138.toNat (x137, (y190, ((IntKind.i64.wrap ((IntKind.i64.wrap (x137 + (1 : Int))) + (1 : Int))), ((IntKind.i64.wrap ((IntKind.i64.wrap ((IntKind.i64.wrap (x137 + (1 : Int))) + (1 : Int))) + (1 : Int))), ((IntKind.i64.wrap ((IntKind.i64.wrap ((IntKind.i64.wrap ((IntKind.i64.wrap (x137 + (1 : Int))) + (1 : Int))) + (1 : Int))) + (1 : Int))), (((Int.tmod (IntKind.i64.wrap ((IntKind.i64.wrap ((IntKind.i64.wrap ((IntKind.i64.wrap ((IntKind.i64.wrap (x137 + (1 : Int))) + (1 : Int))) + (1 : Int))) + (1 : Int))) + (1 : Int))) (3 : Int)) == (0 : Int)), (x136.getD x138.toNat (Ty.dflt Y40)).2.2.2.2.2.2))))))).getD x138.toNat (Ty.dflt Y40)).1, (((x136.set x138.toNat (x137, (y190, ((IntKind.i64.wrap ((IntKind.i64.wrap (x137 + (1 : Int))) + (1 : Int))), ((IntKind.i64.wrap ((IntKind.i64.wrap ((IntKind.i64.wrap (x137 + (1 : Int))) + (1 : Int))) + (1 : Int))), ((IntKind.i64.wrap ((IntKind.i64.wrap ((IntKind.i64.wrap ((IntKind.i64.wrap (x137 + (1 : Int))) + (1 : Int))) + (1 : Int))) + (1 : Int))), (((Int.tmod (IntKind.i64.wrap ((IntKind.i64.wrap ((IntKind.i64.wrap ((IntKind.i64.wrap ((IntKind.i64.wrap (x137 + (1 : Int))) + (1 : Int))) + (1 : Int))) + (1 : Int))) + (1 : Int))) (3 : Int)) == (0 : Int)), (x136.getD x138.toNat (Ty.dflt Y40)).2.2.2.2.2.2))))))).getD x138.toNat (Ty.dflt Y40)).2.1, (((x136.set x138.toNat (x137, (y190, ((IntKind.i64.wrap ((IntKind.i64.wrap (x137 + (1 : Int))) + (1 : Int))), ((IntKind.i64.wrap ((IntKind.i64.wrap ((IntKind.i64.wrap (x137 + (1 : Int))) + (1 : Int))) + (1 : Int))), ((IntKind.i64.wrap ((IntKind.i64.wrap ((IntKind.i64.wrap ((IntKind.i64.wrap (x137 + (1 : Int))) + (1 : Int))) + (1 : Int))) + (1 : Int))), (((Int.tmod (IntKind.i64.wrap ((IntKind.i64.wrap ((IntKind.i64.wrap ((IntKind.i64.wrap ((IntKind.i64.wrap (x137 + (1 : Int))) + (1 : Int))) + (1 : Int))) + (1 : Int))) + (1 : Int))) (3 : Int)) == (0 : Int)), (x136.getD x138.toNat (Ty.dflt Y40)).2.2.2.2.2.2))))))).getD x138.toNat (Ty.dflt Y40)).2.2.1, (((x136.set x138.toNat (x137, (y190, ((IntKind.i64.wrap ((IntKind.i64.wrap (x137 + (1 : Int))) + (1 : Int))), ((IntKind.i64.wrap ((IntKind.i64.wrap ((IntKind.i64.wrap (x137 + (1 : Int))) + (1 : Int))) + (1 : Int))), ((IntKind.i64.wrap ((IntKind.i64.wrap ((IntKind.i64.wrap ((IntKind.i64.wrap (x137 + (1 : Int))) + (1 : Int))) + (1 : Int))) + (1 : Int))), (((Int.tmod (IntKind.i64.wrap ((IntKind.i64.wrap ((IntKind.i64.wrap ((IntKind.i64.wrap ((IntKind.i64.wrap (x137 + (1 : Int))) + (1 : Int))) + (1 : Int))) + (1 : Int))) + (1 : Int))) (3 : Int)) == (0 : Int)), (x136.getD x138.toNat (Ty.dflt Y40)).2.2.2.2.2.2))))))).getD x138.toNat (Ty.dflt Y40)).2.2.2.1, (((x136.set x138.toNat (x137, (y190, ((IntKind.i64.wrap ((IntKind.i64.wrap (x137 + (1 : Int))) + (1 : Int))), ((IntKind.i64.wrap ((IntKind.i64.wrap ((IntKind.i64.wrap (x137 + (1 : Int))) + (1 : Int))) + (1 : Int))), ((IntKind.i64.wrap ((IntKind.i64.wrap ((IntKind.i64.wrap ((IntKind.i64.wrap (x137 + (1 : Int))) + (1 : Int))) + (1 : Int))) + (1 : Int))), (((Int.tmod (IntKind.i64.wrap ((IntKind.i64.wrap ((IntKind.i64.wrap ((IntKind.i64.wrap ((IntKind.i64.wrap (x137 + (1 : Int))) + (1 : Int))) + (1 : Int))) + (1 : Int))) + (1 : Int))) (3 : Int)) == (0 : Int)), (x136.getD x138.toNat (Ty.dflt Y40)).2.2.2.2.2.2))))))).getD x138.toNat (Ty.dflt Y40)).2.2.2.2.1, (((x136.set x138.toNat (x137, (y190, ((IntKind.i64.wrap ((IntKind.i64.wrap (x137 + (1 : Int))) + (1 : Int))), ((IntKind.i64.wrap ((IntKind.i64.wrap ((IntKind.i64.wrap (x137 + (1 : Int))) + (1 : Int))) + (1 : Int))), ((IntKind.i64.wrap ((IntKind.i64.wrap ((IntKind.i64.wrap ((IntKind.i64.wrap (x137 + (1 : Int))) + (1 : Int))) + (1 : Int))) + (1 : Int))), (((Int.tmod (IntKind.i64.wrap ((IntKind.i64.wrap ((IntKind.i64.wrap ((IntKind.i64.wrap ((IntKind.i64.wrap (x137 + (1 : Int))) + (1 : Int))) + (1 : Int))) + (1 : Int))) + (1 : Int))) (3 : Int)) == (0 : Int)), (x136.getD x138.toNat (Ty.dflt Y40)).2.2.2.2.2.2))))))).getD x138.toNat (Ty.dflt Y40)).2.2.2.2.2.1, y202.1))))))) .dp]⟩) (φ := True ∧ True) (by kernel_rfl) ⟨trivial, trivial⟩ ?_
        refine VO.nil ?_
        show VW _ _ _ _ _ _ _
        refine VW.region ?_
        refine VO.seg T_ok .dp 3 [0, 1, 5, 65536] [0] (s' := ⟨[(0, .lf (.hd 0 0 none)), (1, I y202.2), (5, I (IntKind.i64.wrap (x138 + (1 : Int)))), (65536, .lf (.hd 0 0 none))], [ar 0 Y40 ((x136.set x138.toNat (x137, (y190, ((IntKind.i64.wrap ((IntKind.i64.wrap (x137 + (1 : Int))) + (1 : Int))), ((IntKind.i64.wrap ((IntKind.i64.wrap ((IntKind.i64.wrap (x137 + (1 : Int))) + (1 : Int))) + (1 : Int))), ((IntKind.i64.wrap ((IntKind.i64.wrap ((IntKind.i64.wrap ((IntKind.i64.wrap (x137 + (1 : Int))) + (1 : Int))) + (1 : Int))) + (1 : Int))), (((Int.tmod (IntKind.i64.wrap ((IntKind.i64.wrap ((IntKind.i64.wrap ((IntKind.i64.wrap ((IntKind.i64.wrap (x137 + (1 : Int))) + (1 : Int))) + (1 : Int))) + (1 : Int))) + (1 : Int))) (3 : Int)) == (0 : Int)), (x136.getD x138.toNat (Ty.dflt Y40)).2.2.2.2.2.2))))))).set x138.toNat (((x136.set x138.toNat (x137, (y190, ((IntKind.i64.wrap ((IntKind.i64.wrap (x137 + (1 : Int))) + (1 : Int))), ((IntKind.i64.wrap ((IntKind.i64.wrap ((IntKind.i64.wrap (x137 + (1 : Int))) + (1 : Int))) + (1 : Int))), ((IntKind.i64.wrap ((IntKind.i64.wrap ((IntKind.i64.wrap ((IntKind.i64.wrap (x137 + (1 : Int))) + (1 : Int))) + (1 : Int))) + (1 : Int))), (((Int.tmod (IntKind.i64.wrap ((IntKind.i64.wrap ((IntKind.i64.wrap ((IntKind.i64.wrap ((IntKind.i64.wrap (x137 + (1 : Int))) + (1 : Int))) + (1 : Int))) + (1 : Int))) + (1 : Int))) (3 : Int)) == (0 : Int)), (x136.getD x138.toNat (Ty.dflt Y40)).2.2.2.2.2.2))))))).getD x138.toNat (Ty.dflt Y40)).1, (((x136.set x138.toNat (x137, (y190, ((IntKind.i64.wrap ((IntKind.i64.wrap (x137 + (1 : Int))) + (1 : Int))), ((IntKind.i64.wrap ((IntKind.i64.wrap ((IntKind.i64.wrap (x137 + (1 : Int))) + (1 : Int))) + (1 : Int))), ((IntKind.i64.wrap ((IntKind.i64.wrap ((IntKind.i64.wrap ((IntKind.i64.wrap (x137 + (1 : Int))) + (1 : Int))) + (1 : Int))) + (1 : Int))), (((Int.tmod (IntKind.i64.wrap ((IntKind.i64.wrap ((IntKind.i64.wrap ((IntKind.i64.wrap ((IntKind.i64.wrap (x137 + (1 : Int))) + (1 : Int))) + (1 : Int))) + (1 : Int))) + (1 : Int))) (3 : Int)) == (0 : Int)), (x136.getD x138.toNat (Ty.dflt Y40)).2.2.2.2.2.2))))))).getD x138.toNat (Ty.dflt Y40)).2.1, (((x136.set x138.toNat (x137, (y190, ((IntKind.i64.wrap ((IntKind.i64.wrap (x137 + (1 : Int))) + (1 : Int))), ((IntKind.i64.wrap ((IntKind.i64.wrap ((IntKind.i64.wrap (x137 + (1 : Int))) + (1 : Int))) + (1 : Int))), ((IntKind.i64.wrap ((IntKind.i64.wrap ((IntKind.i64.wrap ((IntKind.i64.wrap (x137 + (1 : Int))) + (1 : Int))) + (1 : Int))) + (1 : Int))), (((Int.tmod (IntKind.i64.wrap ((IntKind.i64.wrap ((IntKind.i64.wrap ((IntKind.i64.wrap ((IntKind.i64.wrap (x137 + (1 : Int))) + (1 : Int))) + (1 : Int))) + (1 : Int))) + (1 : Int))) (3 : Int)) == (0 : Int)), (x136.getD x138.toNat (Ty.dflt Y40)).2.2.2.2.2.2))))))).getD x138.toNat (Ty.dflt Y40)).2.2.1, (((x136.set x138.toNat (x137, (y190, ((IntKind.i64.wrap ((IntKind.i64.wrap (x137 + (1 : Int))) + (1 : Int))), ((IntKind.i64.wrap ((IntKind.i64.wrap ((IntKind.i64.wrap (x137 + (1 : Int))) + (1 : Int))) + (1 : Int))), ((IntKind.i64.wrap ((IntKind.i64.wrap ((IntKind.i64.wrap ((IntKind.i64.wrap (x137 + (1 : Int))) + (1 : Int))) + (1 : Int))) + (1 : Int))), (((Int.tmod (IntKind.i64.wrap ((IntKind.i64.wrap ((IntKind.i64.wrap ((IntKind.i64.wrap ((IntKind.i64.wrap (x137 + (1 : Int))) + (1 : Int))) + (1 : Int))) + (1 : Int))) + (1 : Int))) (3 : Int)) == (0 : Int)), (x136.getD x138.toNat (Ty.dflt Y40)).2.2.2.2.2.2))))))).getD x138.toNat (Ty.dflt Y40)).2.2.2.1, (((x136.set x138.toNat (x137, (y190, ((IntKind.i64.wrap ((IntKind.i64.wrap (x137 + (1 : Int))) + (1 : Int))), ((IntKind.i64.wrap ((IntKind.i64.wrap ((IntKind.i64.wrap (x137 + (1 : Int))) + (1 : Int))) + (1 : Int))), ((IntKind.i64.wrap ((IntKind.i64.wrap ((IntKind.i64.wrap ((IntKind.i64.wrap (x137 + (1 : Int))) + (1 : Int))) + (1 : Int))) + (1 : Int))), (((Int.tmod (IntKind.i64.wrap ((IntKind.i64.wrap ((IntKind.i64.wrap ((IntKind.i64.wrap ((IntKind.i64.wrap (x137 + (1 : Int))) + (1 : Int))) + (1 : Int))) + (1 : Int))) + (1 : Int))) (3 : Int)) == (0 : Int)), (x136.getD x138.toNat (Ty.dflt Y40)).2.2.2.2.2.2))))))).getD x138.toNat (Ty.dflt Y40)).2.2.2.2.1, (((x136.set x138.toNat (x137, (y190, ((IntKind.i64.wrap ((IntKind.i64.wrap (x137 + (1 : Int))) + (1 : Int))), ((IntKind.i64.wrap ((IntKind.i64.wrap ((IntKind.i64.wrap (x137 + (1 : Int))) + (1 : Int))) + (1 : Int))), ((IntKind.i64.wrap ((IntKind.i64.wrap ((IntKind.i64.wrap ((IntKind.i64.wrap (x137 + (1 : Int))) + (1 : Int))) + (1 : Int))) + (1 : Int))), (((Int.tmod (IntKind.i64.wrap ((IntKind.i64.wrap ((IntKind.i64.wrap ((IntKind.i64.wrap ((IntKind.i64.wrap (x137 + (1 : Int))) + (1 : Int))) + (1 : Int))) + (1 : Int))) + (1 : Int))) (3 : Int)) == (0 : Int)), (x136.getD x138.toNat (Ty.dflt Y40)).2.2.2.2.2.2))))))).getD x138.toNat (Ty.dflt Y40)).2.2.2.2.2.1, y202.1))))))) .dp]⟩) (φ := True ∧ True ∧ True ∧ True) (by kernel_rfl) ⟨trivial, trivial, trivial, trivial⟩ ?_
        refine VO.nil ?_
        exact around [.ren [0, 1, 5, 65536] [0]] (by kernel_rfl) ⟨((x136.set x138.toNat (x137, (y190, ((IntKind.i64.wrap ((IntKind.i64.wrap (x137 + (1 : Int))) + (1 : Int))), ((IntKind.i64.wrap ((IntKind.i64.wrap ((IntKind.i64.wrap (x137 + (1 : Int))) + (1 : Int))) + (1 : Int))), ((IntKind.i64.wrap ((IntKind.i64.wrap ((IntKind.i64.wrap ((IntKind.i64.wrap (x137 + (1 : Int))) + (1 : Int))) + (1 : Int))) + (1 : Int))), (((Int.tmod (IntKind.i64.wrap ((IntKind.i64.wrap ((IntKind.i64.wrap ((IntKind.i64.wrap ((IntKind.i64.wrap (x137 + (1 : Int))) + (1 : Int))) + (1 : Int))) + (1 : Int))) + (1 : Int))) (3 : Int)) == (0 : Int)), (x136.getD x138.toNat (Ty.dflt Y40)).2.2.2.2.2.2))))))).set x138.toNat (((x136.set x138.toNat (x137, (y190, ((IntKind.i64.wrap ((IntKind.i64.wrap (x137 + (1 : Int))) + (1 : Int))), ((IntKind.i64.wrap ((IntKind.i64.wrap ((IntKind.i64.wrap (x137 + (1 : Int))) + (1 : Int))) + (1 : Int))), ((IntKind.i64.wrap ((IntKind.i64.wrap ((IntKind.i64.wrap ((IntKind.i64.wrap (x137 + (1 : Int))) + (1 : Int))) + (1 : Int))) + (1 : Int))), (((Int.tmod (IntKind.i64.wrap ((IntKind.i64.wrap ((IntKind.i64.wrap ((IntKind.i64.wrap ((IntKind.i64.wrap (x137 + (1 : Int))) + (1 : Int))) + (1 : Int))) + (1 : Int))) + (1 : Int))) (3 : Int)) == (0 : Int)), (x136.getD x138.toNat (Ty.dflt Y40)).2.2.2.2.2.2))))))).getD x138.toNat (Ty.dflt Y40)).1, (((x136.set x138.toNat (x137, (y190, ((IntKind.i64.wrap ((IntKind.i64.wrap (x137 + (1 : Int))) + (1 : Int))), ((IntKind.i64.wrap ((IntKind.i64.wrap ((IntKind.i64.wrap (x137 + (1 : Int))) + (1 : Int))) + (1 : Int))), ((IntKind.i64.wrap ((IntKind.i64.wrap ((IntKind.i64.wrap ((IntKind.i64.wrap (x137 + (1 : Int))) + (1 : Int))) + (1 : Int))) + (1 : Int))), (((Int.tmod (IntKind.i64.wrap ((IntKind.i64.wrap ((IntKind.i64.wrap ((IntKind.i64.wrap ((IntKind.i64.wrap (x137 + (1 : Int))) + (1 : Int))) + (1 : Int))) + (1 : Int))) + (1 : Int))) (3 : Int)) == (0 : Int)), (x136.getD x138.toNat (Ty.dflt Y40)).2.2.2.2.2.2))))))).getD x138.toNat (Ty.dflt Y40)).2.1, (((x136.set x138.toNat (x137, (y190, ((IntKind.i64.wrap ((IntKind.i64.wrap (x137 + (1 : Int))) + (1 : Int))), ((IntKind.i64.wrap ((IntKind.i64.wrap ((IntKind.i64.wrap (x137 + (1 : Int))) + (1 : Int))) + (1 : Int))), ((IntKind.i64.wrap ((IntKind.i64.wrap ((IntKind.i64.wrap ((IntKind.i64.wrap (x137 + (1 : Int))) + (1 : Int))) + (1 : Int))) + (1 : Int))), (((Int.tmod (IntKind.i64.wrap ((IntKind.i64.wrap ((IntKind.i64.wrap ((IntKind.i64.wrap ((IntKind.i64.wrap (x137 + (1 : Int))) + (1 : Int))) + (1 : Int))) + (1 : Int))) + (1 : Int))) (3 : Int)) == (0 : Int)), (x136.getD x138.toNat (Ty.dflt Y40)).2.2.2.2.2.2))))))).getD x138.toNat (Ty.dflt Y40)).2.2.1, (((x136.set x138.toNat (x137, (y190, ((IntKind.i64.wrap ((IntKind.i64.wrap (x137 + (1 : Int))) + (1 : Int))), ((IntKind.i64.wrap ((IntKind.i64.wrap ((IntKind.i64.wrap (x137 + (1 : Int))) + (1 : Int))) + (1 : Int))), ((IntKind.i64.wrap ((IntKind.i64.wrap ((IntKind.i64.wrap ((IntKind.i64.wrap (x137 + (1 : Int))) + (1 : Int))) + (1 : Int))) + (1 : Int))), (((Int.tmod (IntKind.i64.wrap ((IntKind.i64.wrap ((IntKind.i64.wrap ((IntKind.i64.wrap ((IntKind.i64.wrap (x137 + (1 : Int))) + (1 : Int))) + (1 : Int))) + (1 : Int))) + (1 : Int))) (3 : Int)) == (0 : Int)), (x136.getD x138.toNat (Ty.dflt Y40)).2.2.2.2.2.2))))))).getD x138.toNat (Ty.dflt Y40)).2.2.2.1, (((x136.set x138.toNat (x137, (y190, ((IntKind.i64.wrap ((IntKind.i64.wrap (x137 + (1 : Int))) + (1 : Int))), ((IntKind.i64.wrap ((IntKind.i64.wrap ((IntKind.i64.wrap (x137 + (1 : Int))) + (1 : Int))) + (1 : Int))), ((IntKind.i64.wrap ((IntKind.i64.wrap ((IntKind.i64.wrap ((IntKind.i64.wrap (x137 + (1 : Int))) + (1 : Int))) + (1 : Int))) + (1 : Int))), (((Int.tmod (IntKind.i64.wrap ((IntKind.i64.wrap ((IntKind.i64.wrap ((IntKind.i64.wrap ((IntKind.i64.wrap (x137 + (1 : Int))) + (1 : Int))) + (1 : Int))) + (1 : Int))) + (1 : Int))) (3 : Int)) == (0 : Int)), (x136.getD x138.toNat (Ty.dflt Y40)).2.2.2.2.2.2))))))).getD x138.toNat (Ty.dflt Y40)).2.2.2.2.1, (((x136.set x138.toNat (x137, (y190, ((IntKind.i64.wrap ((IntKind.i64.wrap (x137 + (1 : Int))) + (1 : Int))), ((IntKind.i64.wrap ((IntKind.i64.wrap ((IntKind.i64.wrap (x137 + (1 : Int))) + (1 : Int))) + (1 : Int))), ((IntKind.i64.wrap ((IntKind.i64.wrap ((IntKind.i64.wrap ((IntKind.i64.wrap (x137 + (1 : Int))) + (1 : Int))) + (1 : Int))) + (1 : Int))), (((Int.tmod (IntKind.i64.wrap ((IntKind.i64.wrap ((IntKind.i64.wrap ((IntKind.i64.wrap ((IntKind.i64.wrap (x137 + (1 : Int))) + (1 : Int))) + (1 : Int))) + (1 : Int))) + (1 : Int))) (3 : Int)) == (0 : Int)), (x136.getD x138.toNat (Ty.dflt Y40)).2.2.2.2.2.2))))))).getD x138.toNat (Ty.dflt Y40)).2.2.2.2.2.1, y202.1))))))), y202.2, (IntKind.i64.wrap (x138 + (1 : Int))), rfl, h⟩
      · replace h := cond_f h hb; clear hb
        refine VW.exit ?_
        exact arrive [.ren [1, 65536] [0]] (by kernel_rfl) ⟨x137, x136, rfl, h⟩
  · rintro s ⟨x101, x102, rfl, h⟩
    unfold F13_j0 at h
    refine VW.seq ?_
    refine VW.region ?_
    refine VO.seg T_ok .dp 2 [4, 65536] [0] (s' := ⟨[(4, I x101), (65536, .lf (.hd 0 0 none))], [ar 0 Y40 x102 .dp]⟩) (φ := True ∧ True ∧ True) (by kernel_rfl) ⟨trivial, trivial, trivial⟩ ?_
    refine VO.nil ?_
    show VW _ _ _ _ _ _ _
    replace h := Option.some.inj h
    subst h
    refine VW.ghl [.ren [4, 65536] [0]] (VW.ret ?_)
    exact ⟨[], by kernel_rfl, by kernel_rfl, by kernel_rfl⟩

/- loop.example/g00844/laws.heldIntS -/
def F20_j0 (N : Nat) (x16 : Int) : Option (Int) :=
  some x16
def F20_l0_b (N : Nat) (a0 : (List Int)) (nx28 : Int → Int → Option (Int)) (x22 : Int) (x23 : Int) : Option (Int) :=
  cond (decide (x23 < (a0.length : Int))) (gd (InR x23 a0.length) (cond ((a0.getD x23.toNat (Ty.dflt (.int .i64))) != x22) (some (-1 : Int)) (nx28 (IntKind.i64.wrap (x22 + (1 : Int))) (IntKind.i64.wrap (x23 + (1 : Int)))))) (F20_j0 N x22)
def F20_l0 (N : Nat) (a0 : (List Int)) : Nat → Int → Int → Option (Int) := loopF (F20_l0_b N a0) (fun _ _ => none)
theorem F20_l0_s (N : Nat) (a0 : (List Int)) {k : Nat} (hk : 0 < k) (x22 : Int) (x23 : Int) : F20_l0 N a0 k x22 x23 = F20_l0_b N a0 (F20_l0 N a0 (k - 1)) x22 x23 := by
  cases k with
  | zero => exact absurd hk (Nat.lt_irrefl 0)
  | succ m => rfl
def F20 (N : Nat) (a0 : (List Int)) (a1 : Int) : Option (Int) :=
  F20_l0 N a0 N a1 (0 : Int)
theorem ok20 (N : Nat) (a0 : (List Int)) (a1 : Int) {r : Int} (h : F20 N a0 a1 = some r) : Con Go.Proofs.Try.prog 20 [.lf (.v (.sl (.int .i64)) a0), I a1] [.lf (.v (.int .i64) r)] := by
  refine ⟨enters_of Go.Proofs.Try.func20 rfl (by decide), HC.intro [.lf (.v (.int .i64))] T_ok Go.Proofs.Try.func20 rfl (Nat.le_of_ble_eq_true rfl) (Nat.le_of_ble_eq_true rfl) fun w0 E0 => ?_⟩
  unfold F20 at h
  show VW _ _ _ _ _ (retQ _ _ _ _) _
  refine VW.seq ?_
  refine VW.region ?_
  refine VO.seg T_ok .dp 1 [0, 1] [] (s' := ⟨[(0, .lf (.v (.sl (.int .i64)) a0)), (1, I a1)], []⟩) (φ := True ∧ True) (by kernel_rfl) ⟨trivial, trivial⟩ ?_
  refine VO.nil ?_
  show VW _ _ _ _ _ _ _
  refine VW.join (fun s => ∃ (x16 : Int), s = ⟨[(1, I x16)], []⟩ ∧ F20_j0 N x16 = some r) ?_ ?_
  · refine VW.seq ?_
    refine VW.region ?_
    refine VO.seg T_ok .dp 1 [0, 1, 5] [] (s' := ⟨[(0, .lf (.v (.sl (.int .i64)) a0)), (1, I a1), (5, I (0 : Int))], []⟩) (φ := True ∧ True) (by kernel_rfl) ⟨trivial, trivial⟩ ?_
    refine VO.nil ?_
    show VW _ _ _ _ _ _ _
    refine VW.block ?_
    refine VW.loopL (fun k s => ∃ (x22 : Int) (x23 : Int), s = ⟨[(0, .lf (.v (.sl (.int .i64)) a0)), (1, I x22), (5, I x23)], []⟩ ∧ F20_l0 N a0 k x22 x23 = some r) N [.ren [0, 1, 5] []] (by kernel_rfl) ⟨a1, (0 : Int), rfl, h⟩ ?_
    rintro k28 s ⟨x22, x23, rfl, h⟩
    cases k28 with
    | zero => exact nomatch (show (none : Option (Int)) = some r from h)
    | succ k28 =>
      replace h : F20_l0_b N a0 (F20_l0 N a0 k28) x22 x23 = some r := h
      unfold F20_l0_b at h
      refine VW.seq ?_
      refine VW.seq ?_
      refine VW.region ?_
      refine VO.seg T_ok .dp 4 [0, 1, 5, 9] [] (s' := ⟨[(0, .lf (.v (.sl (.int .i64)) a0)), (1, I x22), (5, I x23), (9, B (decide (x23 < (a0.length : Int))))], []⟩) (φ := True ∧ True ∧ True ∧ True ∧ True) (by kernel_rfl) ⟨trivial, trivial, trivial, trivial, trivial⟩ ?_
      refine VO.nil ?_
      show VW _ _ _ _ _ _ _
      refine VW.cond (b := (decide (x23 < (a0.length : Int)))) (by kernel_rfl) (fun hb => ?_) (fun hb => ?_)
      · replace h := cond_t h hb; clear hb
        refine VW.skip ?_
        show VW _ _ _ _ _ _ _
        refine VW.seq ?_
        refine VW.block ?_
        refine VW.seq ?_
        refine VW.seq ?_
        refine VW.region ?_
        obtain ⟨g32, h⟩ := gd_some h
        refine VO.seg T_ok .dp 6 [0, 1, 5, 17] [] (s' := ⟨[(0, .lf (.v (.sl (.int .i64)) a0)), (1, I x22), (5, I x23), (17, B ((a0.getD x23.toNat (Ty.dflt (.int .i64))) != x22))], []⟩) (φ := True ∧ True ∧ (InR x23 a0.length) ∧ True ∧ True ∧ True ∧ True) (by kernel_rfl) ⟨trivial, trivial, g32, trivial, trivial, trivial, trivial⟩ ?_
        refine VO.nil ?_
        show VW _ _ _ _ _ _ _
        refine VW.cond (b := ((a0.getD x23.toNat (Ty.dflt (.int .i64))) != x22)) (by kernel_rfl) (fun hb => ?_) (fun hb => ?_)
        · replace h := cond_t h hb; clear hb
          refine VW.seq ?_
          refine VW.region ?_
          refine VO.seg T_ok .dp 1 [4] [] (s' := ⟨[(4, I (-1 : Int))], []⟩) (φ := True ∧ True) (by kernel_rfl) ⟨trivial, trivial⟩ ?_
          refine VO.nil ?_
          show VW _ _ _ _ _ _ _
          refine VW.ret ?_
          replace h := Option.some.inj h
          subst h
          exact retR [] (by kernel_rfl) rfl
        · replace h := cond_f h hb; clear hb
          refine VW.skip ?_
          show VW _ _ _ _ _ _ _
          refine VW.region ?_
          refine VO.seg T_ok .dp 3 [0, 1, 5] [] (s' := ⟨[(0, .lf (.v (.sl (.int .i64)) a0)), (1, I (IntKind.i64.wrap (x22 + (1 : Int)))), (5, I x23)], []⟩) (φ := True ∧ True ∧ True ∧ True) (by kernel_rfl) ⟨trivial, trivial, trivial, trivial⟩ ?_
          refine VO.nil ?_
          show VW _ _ _ _ _ _ _
          refine VW.region ?_
          refine VO.seg T_ok .dp 3 [0, 1, 5] [] (s' := ⟨[(0, .lf (.v (.sl (.int .i64)) a0)), (1, I (IntKind.i64.wrap (x22 + (1 : Int)))), (5, I (IntKind.i64.wrap (x23 + (1 : Int))))], []⟩) (φ := True ∧ True ∧ True ∧ True) (by kernel_rfl) ⟨trivial, trivial, trivial, trivial⟩ ?_
          refine VO.nil ?_
          exact around [.ren [0, 1, 5] []] (by kernel_rfl) ⟨(IntKind.i64.wrap (x22 + (1 : Int))), (IntKind.i64.wrap (x23 + (1 : Int))), rfl, h⟩
      · replace h := cond_f h hb; clear hb
        refine VW.exit ?_
        exact arrive [.ren [1] []] (by kernel_rfl) ⟨x22, rfl, h⟩
  · rintro s ⟨x16, rfl, h⟩
    unfold F20_j0 at h
    refine VW.seq ?_
    refine VW.region ?_
    refine VO.seg T_ok .dp 2 [4] [] (s' := ⟨[(4, I x16)], []⟩) (φ := True ∧ True ∧ True) (by kernel_rfl) ⟨trivial, trivial, trivial⟩ ?_
    refine VO.nil ?_
    show VW _ _ _ _ _ _ _
    refine VW.ret ?_
    replace h := Option.some.inj h
    subst h
    exact retR [] (by kernel_rfl) rfl

/- loop.example/g00844/laws.heldNodeS -/
def F15_j0 (N : Nat) (x100 : Int) : Option (Int) :=
  some x100
def F15_l0_b (N : Nat) (a0 : (List (Int × (ByteArray × (Int × (Int × (Int × (Bool × (List Int))))))))) (nx168 : Int → Int → Option (Int)) (x134 : Int) (x135 : Int) : Option (Int) :=
  cond (decide (x135 < (a0.length : Int))) (gd (InR x135 a0.length) (cond (((a0.getD x135.toNat (Ty.dflt Y40)).1) != x134) (some (-1 : Int)) (gd (InR x135 a0.length) (andO (F28 N (IntKind.i64.wrap (x134 + (1 : Int)))) fun y190 => cond (!(((a0.getD x135.toNat (Ty.dflt Y40)).2.1).toList == y190.toList)) (some (-1 : Int)) (gd (InR x135 a0.length) (cond (((a0.getD x135.toNat (Ty.dflt Y40)).2.2.1) != (IntKind.i64.wrap ((IntKind.i64.wrap (x134 + (1 : Int))) + (1 : Int)))) (some (-1 : Int)) (gd (InR x135 a0.length) (cond (((a0.getD x135.toNat (Ty.dflt Y40)).2.2.2.1) != (IntKind.i64.wrap ((IntKind.i64.wrap ((IntKind.i64.wrap (x134 + (1 : Int))) + (1 : Int))) + (1 : Int)))) (some (-1 : Int)) (gd (InR x135 a0.length) (cond (((a0.getD x135.toNat (Ty.dflt Y40)).2.2.2.2.1) != (IntKind.i64.wrap ((IntKind.i64.wrap ((IntKind.i64.wrap ((IntKind.i64.wrap (x134 + (1 : Int))) + (1 : Int))) + (1 : Int))) + (1 : Int)))) (some (-1 : Int)) (gd (InR x135 a0.length) (cond (!(((a0.getD x135.toNat (Ty.dflt Y40)).2.2.2.2.2.1) == ((Int.tmod (IntKind.i64.wrap ((IntKind.i64.wrap ((IntKind.i64.wrap ((IntKind.i64.wrap ((IntKind.i64.wrap (x134 + (1 : Int))) + (1 : Int))) + (1 : Int))) + (1 : Int))) + (1 : Int))) (3 : Int)) == (0 : Int)))) (some (-1 : Int)) (gd (InR x135 a0.length) (andO (F20 N ((a0.getD x135.toNat (Ty.dflt Y40)).2.2.2.2.2.2) (IntKind.i64.wrap ((IntKind.i64.wrap ((IntKind.i64.wrap ((IntKind.i64.wrap ((IntKind.i64.wrap ((IntKind.i64.wrap (x134 + (1 : Int))) + (1 : Int))) + (1 : Int))) + (1 : Int))) + (1 : Int))) + (1 : Int)))) fun y200 => cond (decide (y200 < (0 : Int))) (some (-1 : Int)) (nx168 y200 (IntKind.i64.wrap (x135 + (1 : Int)))))))))))))))))) (F15_j0 N x134)
def F15_l0 (N : Nat) (a0 : (List (Int × (ByteArray × (Int × (Int × (Int × (Bool × (List Int))))))))) : Nat → Int → Int → Option (Int) := loopF (F15_l0_b N a0) (fun _ _ => none)
theorem F15_l0_s (N : Nat) (a0 : (List (Int × (ByteArray × (Int × (Int × (Int × (Bool × (List Int))))))))) {k : Nat} (hk : 0 < k) (x134 : Int) (x135 : Int) : F15_l0 N a0 k x134 x135 = F15_l0_b N a0 (F15_l0 N a0 (k - 1)) x134 x135 := by
  cases k with
  | zero => exact absurd hk (Nat.lt_irrefl 0)
  | succ m => rfl
def F15 (N : Nat) (a0 : (List (Int × (ByteArray × (Int × (Int × (Int × (Bool × (List Int))))))))) (a1 : Int) : Option (Int) :=
  F15_l0 N a0 N a1 (0 : Int)
theorem ok15 (N : Nat) (a0 : (List (Int × (ByteArray × (Int × (Int × (Int × (Bool × (List Int))))))))) (a1 : Int) {r : Int} (h : F15 N a0 a1 = some r) : Con Go.Proofs.Try.prog 15 [.lf (.v (.sl Y40) a0), I a1] [.lf (.v (.int .i64) r)] := by
  refine ⟨enters_of Go.Proofs.Try.func15 rfl (by decide), HC.intro [.lf (.v (.int .i64))] T_ok Go.Proofs.Try.func15 rfl (Nat.le_of_ble_eq_true rfl) (Nat.le_of_ble_eq_true rfl) fun w0 E0 => ?_⟩
  unfold F15 at h
  show VW _ _ _ _ _ (retQ _ _ _ _) _
  refine VW.seq ?_
  refine VW.region ?_
  refine VO.seg T_ok .dp 1 [0, 1] [] (s' := ⟨[(0, .lf (.v (.sl Y40) a0)), (1, I a1)], []⟩) (φ := True ∧ True) (by kernel_rfl) ⟨trivial, trivial⟩ ?_
  refine VO.nil ?_
  show VW _ _ _ _ _ _ _
  refine VW.join (fun s => ∃ (x100 : Int), s = ⟨[(1, I x100)], []⟩ ∧ F15_j0 N x100 = some r) ?_ ?_
  · refine VW.seq ?_
    refine VW.region ?_
    refine VO.seg T_ok .dp 1 [0, 1, 5] [] (s' := ⟨[(0, .lf (.v (.sl Y40) a0)), (1, I a1), (5, I (0 : Int))], []⟩) (φ := True ∧ True) (by kernel_rfl) ⟨trivial, trivial⟩ ?_
    refine VO.nil ?_
    show VW _ _ _ _ _ _ _
    refine VW.block ?_
    refine VW.loopL (fun k s => ∃ (x134 : Int) (x135 : Int), s = ⟨[(0, .lf (.v (.sl Y40) a0)), (1, I x134), (5, I x135)], []⟩ ∧ F15_l0 N a0 k x134 x135 = some r) N [.ren [0, 1, 5] []] (by kernel_rfl) ⟨a1, (0 : Int), rfl, h⟩ ?_
    rintro k168 s ⟨x134, x135, rfl, h⟩
    cases k168 with
    | zero => exact nomatch (show (none : Option (Int)) = some r from h)
    | succ k168 =>
      replace h : F15_l0_b N a0 (F15_l0 N a0 k168) x134 x135 = some r := h
      unfold F15_l0_b at h
      refine VW.seq ?_
      refine VW.seq ?_
      refine VW.region ?_
      refine VO.seg T_ok .dp 4 [0, 1, 5, 9] [] (s' := ⟨[(0, .lf (.v (.sl Y40) a0)), (1, I x134), (5, I x135), (9, B (decide (x135 < (a0.length : Int))))], []⟩) (φ := True ∧ True ∧ True ∧ True ∧ True) (by kernel_rfl) ⟨trivial, trivial, trivial, trivial, trivial⟩ ?_
      refine VO.nil ?_
      show VW _ _ _ _ _ _ _
      refine VW.cond (b := (decide (x135 < (a0.length : Int)))) (by kernel_rfl) (fun hb => ?_) (fun hb => ?_)
      · replace h := cond_t h hb; clear hb
        refine VW.skip ?_
        show VW _ _ _ _ _ _ _
        refine VW.seq ?_
        refine VW.block ?_
        refine VW.seq ?_
        refine VW.seq ?_
        refine VW.region ?_
        obtain ⟨g186, h⟩ := gd_some h
        refine VO.seg T_ok .dp 7 [0, 1, 5, 18] [] (s' := ⟨[(0, .lf (.v (.sl Y40) a0)), (1, I x134), (5, I x135), (18, B (((a0.getD x135.toNat (Ty.dflt Y40)).1) != x134))], []⟩) (φ := True ∧ True ∧ (InR x135 a0.length) ∧ True ∧ True ∧ True ∧ True ∧ True) (by kernel_rfl) ⟨trivial, trivial, g186, trivial, trivial, trivial, trivial, trivial⟩ ?_
        refine VO.nil ?_
        show VW _ _ _ _ _ _ _
        refine VW.cond (b := (((a0.getD x135.toNat (Ty.dflt Y40)).1) != x134)) (by kernel_rfl) (fun hb => ?_) (fun hb => ?_)
        · replace h := cond_t h hb; clear hb
          refine VW.seq ?_
          refine VW.region ?_
          refine VO.seg T_ok .dp 1 [4] [] (s' := ⟨[(4, I (-1 : Int))], []⟩) (φ := True ∧ True) (by kernel_rfl) ⟨trivial, trivial⟩ ?_
          refine VO.nil ?_
          show VW _ _ _ _ _ _ _
          refine VW.ret ?_
          replace h := Option.some.inj h
          subst h
          exact retR [] (by kernel_rfl) rfl
        · replace h := cond_f h hb; clear hb
          refine VW.skip ?_
          show VW _ _ _ _ _ _ _
          refine VW.seq ?_
          refine VW.region ?_
          refine VO.seg T_ok .dp 3 [0, 1, 5] [] (s' := ⟨[(0, .lf (.v (.sl Y40) a0)), (1, I (IntKind.i64.wrap (x134 + (1 : Int)))), (5, I x135)], []⟩) (φ := True ∧ True ∧ True ∧ True) (by kernel_rfl) ⟨trivial, trivial, trivial, trivial⟩ ?_
          refine VO.nil ?_
          show VW _ _ _ _ _ _ _
          refine VW.seq ?_
          refine VW.seq ?_
          obtain ⟨g189, h⟩ := gd_some h
          obtain ⟨y190, hy190, h⟩ := andO_some h
          refine VW.drawn (by kernel_rfl) [some (21, .lf (.v (.sl Y40) a0)), some (22, I x135), some (23, .lf (.fp Y40 (a0.getD x135.toNat (Ty.dflt Y40)) 0)), some (24, .lf (.fp Y40 (a0.getD x135.toNat (Ty.dflt Y40)) 1)), some (25, S ((a0.getD x135.toNat (Ty.dflt Y40)).2.1)), some (26, I (IntKind.i64.wrap (x134 + (1 : Int)))), some (27, S y190), some (28, B (!(((a0.getD x135.toNat (Ty.dflt Y40)).2.1).toList == y190.toList)))] [] [[]] [(0, 0), (1, 0), (2, 0), (3, 0), (4, 0), (5, 0), (6, 0), (7, 0)] [0, 1, 5, 28] [] (s' := ⟨[(0, .lf (.v (.sl Y40) a0)), (1, I (IntKind.i64.wrap (x134 + (1 : Int)))), (5, I x135), (28, B (!(((a0.getD x135.toNat (Ty.dflt Y40)).2.1).toList == y190.toList)))], []⟩) (by kernel_rfl) (by kernel_rfl) ⟨⟨_, rfl, Stp.ev T_ok (m := .dp) (φ := True) (by kernel_rfl) trivial⟩,
    ⟨_, rfl, Stp.ev T_ok (m := .dp) (φ := True) (by kernel_rfl) trivial⟩,
    ⟨_, rfl, Stp.ev T_ok (m := .dp) (φ := InR x135 a0.length) (by kernel_rfl) g189⟩,
    ⟨_, rfl, Stp.ev T_ok (m := .dp) (φ := True) (by kernel_rfl) trivial⟩,
    ⟨_, rfl, Stp.ev T_ok (m := .dp) (φ := True) (by kernel_rfl) trivial⟩,
    ⟨_, rfl, Stp.ev T_ok (m := .dp) (φ := True) (by kernel_rfl) trivial⟩,
    ⟨_, rfl, Stp.eq (Stp.call false [.t (.int .i64)] [] T_ok (d := some 27) (by kernel_rfl) (ok28 N _ hy190) rfl) (by kernel_rfl) (by kernel_rfl)⟩,
    ⟨_, rfl, Stp.ev T_ok (m := .dp) (φ := True) (by kernel_rfl) trivial⟩, trivial⟩ (by kernel_rfl) ?_
          show VW _ _ _ _ _ _ _
          refine VW.cond (b := (!(((a0.getD x135.toNat (Ty.dflt Y40)).2.1).toList == y190.toList))) (by kernel_rfl) (fun hb => ?_) (fun hb => ?_)
          · replace h := cond_t h hb; clear hb
            refine VW.seq ?_
            refine VW.region ?_
            refine VO.seg T_ok .dp 1 [4] [] (s' := ⟨[(4, I (-1 : Int))], []⟩) (φ := True ∧ True) (by kernel_rfl) ⟨trivial, trivial⟩ ?_
            refine VO.nil ?_
            show VW _ _ _ _ _ _ _
            refine VW.ret ?_
            replace h := Option.some.inj h
            subst h
            exact retR [] (by kernel_rfl) rfl
          · replace h := cond_f h hb; clear hb
            refine VW.skip ?_
            show VW _ _ _ _ _ _ _
            refine VW.seq ?_
            refine VW.region ?_
            refine VO.seg T_ok .dp 3 [0, 1, 5] [] (s' := ⟨[(0, .lf (.v (.sl Y40) a0)), (1, I (IntKind.i64.wrap ((IntKind.i64.wrap (x134 + (1 : Int))) + (1 : Int)))), (5, I x135)], []⟩) (φ := True ∧ True ∧ True ∧ True) (by kernel_rfl) ⟨trivial, trivial, trivial, trivial⟩ ?_
            refine VO.nil ?_
            show VW _ _ _ _ _ _ _
            refine VW.seq ?_
            refine VW.seq ?_
            refine VW.region ?_
            obtain ⟨g192, h⟩ := gd_some h
            refine VO.seg T_ok .dp 7 [0, 1, 5, 37] [] (s' := ⟨[(0, .lf (.v (.sl Y40) a0)), (1, I (IntKind.i64.wrap ((IntKind.i64.wrap (x134 + (1 : Int))) + (1 : Int)))), (5, I x135), (37, B (((a0.getD x135.toNat (Ty.dflt Y40)).2.2.1) != (IntKind.i64.wrap ((IntKind.i64.wrap (x134 + (1 : Int))) + (1 : Int)))))], []⟩) (φ := True ∧ True ∧ (InR x135 a0.length) ∧ True ∧ True ∧ True ∧ True ∧ True) (by kernel_rfl) ⟨trivial, trivial, g192, trivial, trivial, trivial, trivial, trivial⟩ ?_
            refine VO.nil ?_
            show VW _ _ _ _ _ _ _
            refine VW.cond (b := (((a0.getD x135.toNat (Ty.dflt Y40)).2.2.1) != (IntKind.i64.wrap ((IntKind.i64.wrap (x134 + (1 : Int))) + (1 : Int))))) (by kernel_rfl) (fun hb => ?_) (fun hb => ?_)
            · replace h := cond_t h hb; clear hb
              refine VW.seq ?_
              refine VW.region ?_
              refine VO.seg T_ok .dp 1 [4] [] (s' := ⟨[(4, I (-1 : Int))], []⟩) (φ := True ∧ True) (by kernel_rfl) ⟨trivial, trivial⟩ ?_
              refine VO.nil ?_
              show VW _ _ _ _ _ _ _
              refine VW.ret ?_
              replace h := Option.some.inj h
              subst h
              exact retR [] (by kernel_rfl) rfl
            · replace h := cond_f h hb; clear hb
              refine VW.skip ?_
              show VW _ _ _ _ _ _ _
              refine VW.seq ?_
              refine VW.region ?_
              refine VO.seg T_ok .dp 3 [0, 1, 5] [] (s' := ⟨[(0, .lf (.v (.sl Y40) a0)), (1, I (IntKind.i64.wrap ((IntKind.i64.wrap ((IntKind.i64.wrap (x134 + (1 : Int))) + (1 : Int))) + (1 : Int)))), (5, I x135)], []⟩) (φ := True ∧ True ∧ True ∧ True) (by kernel_rfl) ⟨trivial, trivial, trivial, trivial⟩ ?_
              refine VO.nil ?_
              show VW _ _ _ _ _ _ _
              refine VW.seq ?_
              refine VW.seq ?_
              refine VW.region ?_
              obtain ⟨g194, h⟩ := gd_some h
              refine VO.seg T_ok .dp 7 [0, 1, 5, 46] [] (s' := ⟨[(0, .lf (.v (.sl Y40) a0)), (1, I (IntKind.i64.wrap ((IntKind.i64.wrap ((IntKind.i64.wrap (x134 + (1 : Int))) + (1 : Int))) + (1 : Int)))), (5, I x135), (46, B (((a0.getD x135.toNat (Ty.dflt Y40)).2.2.2.1) != (IntKind.i64.wrap ((IntKind.i64.wrap ((IntKind.i64.wrap (x134 + (1 : Int))) + (1 : Int))) + (1 : Int)))))], []⟩) (φ := True ∧ True ∧ (InR x135 a0.length) ∧ True ∧ True ∧ True ∧ True ∧ True) (by kernel_rfl) ⟨trivial, trivial, g194, trivial, trivial, trivial, trivial, trivial⟩ ?_
              refine VO.nil ?_
              show VW _ _ _ _ _ _ _
              refine VW.cond (b := (((a0.getD x135.toNat (Ty.dflt Y40)).2.2.2.1) != (IntKind.i64.wrap ((IntKind.i64.wrap ((IntKind.i64.wrap (x134 + (1 : Int))) + (1 : Int))) + (1 : Int))))) (by kernel_rfl) (fun hb => ?_) (fun hb => ?_)
              · replace h := cond_t h hb; clear hb
                refine VW.seq ?_
                refine VW.region ?_
                refine VO.seg T_ok .dp 1 [4] [] (s' := ⟨[(4, I (-1 : Int))], []⟩) (φ := True ∧ True) (by kernel_rfl) ⟨trivial, trivial⟩ ?_
                refine VO.nil ?_
                show VW _ _ _ _ _ _ _
                refine VW.ret ?_
                replace h := Option.some.inj h
                subst h
                exact retR [] (by kernel_rfl) rfl
              · replace h := cond_f h hb; clear hb
                refine VW.skip ?_
                show VW _ _ _ _ _ _ _
                refine VW.seq ?_
                refine VW.region ?_
                refine VO.seg T_ok .dp 3 [0, 1, 5] [] (s' := ⟨[(0, .lf (.v (.sl Y40) a0)), (1, I (IntKind.i64.wrap ((IntKind.i64.wrap ((IntKind.i64.wrap ((IntKind.i64.wrap (x134 + (1 : Int))) + (1 : Int))) + (1 : Int))) + (1 : Int)))), (5, I x135)], []⟩) (φ := True ∧ True ∧ True ∧ True) (by kernel_rfl) ⟨trivial, trivial, trivial, trivial⟩ ?_
                refine VO.nil ?_
                show VW _ _ _ _ _ _ _
                refine VW.seq ?_
                refine VW.seq ?_
                refine VW.region ?_
                obtain ⟨g196, h⟩ := gd_some h
                refine VO.seg T_ok .dp 7 [0, 1, 5, 55] [] (s' := ⟨[(0, .lf (.v (.sl Y40) a0)), (1, I (IntKind.i64.wrap ((IntKind.i64.wrap ((IntKind.i64.wrap ((IntKind.i64.wrap (x134 + (1 : Int))) + (1 : Int))) + (1 : Int))) + (1 : Int)))), (5, I x135), (55, B (((a0.getD x135.toNat (Ty.dflt Y40)).2.2.2.2.1) != (IntKind.i64.wrap ((IntKind.i64.wrap ((IntKind.i64.wrap ((IntKind.i64.wrap (x134 + (1 : Int))) + (1 : Int))) + (1 : Int))) + (1 : Int)))))], []⟩) (φ := True ∧ True ∧ (InR x135 a0.length) ∧ True ∧ True ∧ True ∧ True ∧ True) (by kernel_rfl) ⟨trivial, trivial, g196, trivial, trivial, trivial, trivial, trivial⟩ ?_
                refine VO.nil ?_
                show VW _ _ _ _ _ _ _
                refine VW.cond (b := (((a0.getD x135.toNat (Ty.dflt Y40)).2.2.2.2.1) != (IntKind.i64.wrap ((IntKind.i64.wrap ((IntKind.i64.wrap ((IntKind.i64.wrap (x134 + (1 : Int))) + (1 : Int))) + (1 : Int))) + (1 : Int))))) (by kernel_rfl) (fun hb => ?_) (fun hb => ?_)
                · replace h := cond_t h hb; clear hb
                  refine VW.seq ?_
                  refine VW.region ?_
                  refine VO.seg T_ok .dp 1 [4] [] (s' := ⟨[(4, I (-1 : Int))], []⟩) (φ := True ∧ True) (by kernel_rfl) ⟨trivial, trivial⟩ ?_
                  refine VO.nil ?_
                  show VW _ _ _ _ _ _ _
                  refine VW.ret ?_
                  replace h := Option.some.inj h
                  subst h
                  exact retR [] (by kernel_rfl) rfl
                · replace h := cond_f h hb; clear hb
                  refine VW.skip ?_
                  show VW _ _ _ _ _ _ _
                  refine VW.seq ?_
                  refine VW.region ?_
                  refine VO.seg T_ok .dp 3 [0, 1, 5] [] (s' := ⟨[(0, .lf (.v (.sl Y40) a0)), (1, I (IntKind.i64.wrap ((IntKind.i64.wrap ((IntKind.i64.wrap ((IntKind.i64.wrap ((IntKind.i64.wrap (x134 + (1 : Int))) + (1 : Int))) + (1 : Int))) + (1 : Int))) + (1 : Int)))), (5, I x135)], []⟩) (φ := True ∧ True ∧ True ∧ True) (by kernel_rfl) ⟨trivial, trivial, trivial, trivial⟩ ?_
                  refine VO.nil ?_
                  show VW _ _ _ _ _ _ _
                  refine VW.seq ?_
                  refine VW.seq ?_
                  refine VW.region ?_
                  obtain ⟨g198, h⟩ := gd_some h
                  refine VO.seg T_ok .dp 9 [0, 1, 5, 66] [] (s' := ⟨[(0, .lf (.v (.sl Y40) a0)), (1, I (IntKind.i64.wrap ((IntKind.i64.wrap ((IntKind.i64.wrap ((IntKind.i64.wrap ((IntKind.i64.wrap (x134 + (1 : Int))) + (1 : Int))) + (1 : Int))) + (1 : Int))) + (1 : Int)))), (5, I x135), (66, B (!(((a0.getD x135.toNat (Ty.dflt Y40)).2.2.2.2.2.1) == ((Int.tmod (IntKind.i64.wrap ((IntKind.i64.wrap ((IntKind.i64.wrap ((IntKind.i64.wrap ((IntKind.i64.wrap (x134 + (1 : Int))) + (1 : Int))) + (1 : Int))) + (1 : Int))) + (1 : Int))) (3 : Int)) == (0 : Int)))))], []⟩) (φ := True ∧ True ∧ (InR x135 a0.length) ∧ True ∧ True ∧ True ∧ ((3 : Int) ≠ 0) ∧ True ∧ True ∧ True) (by kernel_rfl) ⟨trivial, trivial, g198, trivial, trivial, trivial, (by decide), trivial, trivial, trivial⟩ ?_
                  refine VO.nil ?_
                  show VW _ _ _ _ _ _ _
                  refine VW.cond (b := (!(((a0.getD x135.toNat (Ty.dflt Y40)).2.2.2.2.2.1) == ((Int.tmod (IntKind.i64.wrap ((IntKind.i64.wrap ((IntKind.i64.wrap ((IntKind.i64.wrap ((IntKind.i64.wrap (x134 + (1 : Int))) + (1 : Int))) + (1 : Int))) + (1 : Int))) + (1 : Int))) (3 : Int)) == (0 : Int))))) (by kernel_rfl) (fun hb => ?_) (fun hb => ?_)
                  · replace h := cond_t h hb; clear hb
                    refine VW.seq ?_
                    refine VW.region ?_
                    refine VO.seg T_ok .dp 1 [4] [] (s' := ⟨[(4, I (-1 : Int))], []⟩) (φ := True ∧ True) (by kernel_rfl) ⟨trivial, trivial⟩ ?_
                    refine VO.nil ?_
                    show VW _ _ _ _ _ _ _
                    refine VW.ret ?_
                    replace h := Option.some.inj h
                    subst h
                    exact retR [] (by kernel_rfl) rfl
                  · replace h := cond_f h hb; clear hb
                    refine VW.skip ?_
                    show VW _ _ _ _ _ _ _
                    refine VW.seq ?_
                    refine VW.region ?_
                    refine VO.seg T_ok .dp 3 [0, 1, 5] [] (s' := ⟨[(0, .lf (.v (.sl Y40) a0)), (1, I (IntKind.i64.wrap ((IntKind.i64.wrap ((IntKind.i64.wrap ((IntKind.i64.wrap ((IntKind.i64.wrap ((IntKind.i64.wrap (x134 + (1 : Int))) + (1 : Int))) + (1 : Int))) + (1 : Int))) + (1 : Int))) + (1 : Int)))), (5, I x135)], []⟩) (φ := True ∧ True ∧ True ∧ True) (by kernel_rfl) ⟨trivial, trivial, trivial, trivial⟩ ?_
                    refine VO.nil ?_
                    show VW _ _ _ _ _ _ _
                    refine VW.seq ?_
                    refine VW.region ?_
                    obtain ⟨g199, h⟩ := gd_some h
                    refine VO.seg T_ok .dp 6 [0, 5, 73, 74] [] (s' := ⟨[(0, .lf (.v (.sl Y40) a0)), (5, I x135), (73, .lf (.v (.sl (.int .i64)) ((a0.getD x135.toNat (Ty.dflt Y40)).2.2.2.2.2.2))), (74, I (IntKind.i64.wrap ((IntKind.i64.wrap ((IntKind.i64.wrap ((IntKind.i64.wrap ((IntKind.i64.wrap ((IntKind.i64.wrap (x134 + (1 : Int))) + (1 : Int))) + (1 : Int))) + (1 : Int))) + (1 : Int))) + (1 : Int))))], []⟩) (φ := True ∧ True ∧ (InR x135 a0.length) ∧ True ∧ True ∧ True ∧ True) (by kernel_rfl) ⟨trivial, trivial, g199, trivial, trivial, trivial, trivial⟩ ?_
                    obtain ⟨y200, hy, h⟩ := andO_some h
                    refine VO.call false [.t (.sl (.int .i64)), .t (.int .i64)] [] T_ok (d := some 75) (by kernel_rfl) (ok20 N _ _ hy) rfl ?_
                    refine VO.seg T_ok .dp 1 [0, 1, 5] [] (s' := ⟨[(0, .lf (.v (.sl Y40) a0)), (1, I y200), (5, I x135)], []⟩) (φ := True ∧ True) (by kernel_rfl) ⟨trivial, trivial⟩ ?_
                    refine VO.nil ?_
                    show VW _ _ _ _ _ _ _
                    refine VW.seq ?_
                    refine VW.region ?_
                    refine VO.seg T_ok .dp 2 [0, 1, 5, 77] [] (s' := ⟨[(0, .lf (.v (.sl Y40) a0)), (1, I y200), (5, I x135), (77, B (decide (y200 < (0 : Int))))], []⟩) (φ := True ∧ True ∧ True) (by kernel_rfl) ⟨trivial, trivial, trivial⟩ ?_
                    refine VO.nil ?_
                    show VW _ _ _ _ _ _ _
                    refine VW.cond (b := (decide (y200 < (0 : Int)))) (by kernel_rfl) (fun hb => ?_) (fun hb => ?_)
                    · replace h := cond_t h hb; clear hb
                      refine VW.seq ?_
                      refine VW.region ?_
                      refine VO.seg T_ok .dp 1 [4] [] (s' := ⟨[(4, I (-1 : Int))], []⟩) (φ := True ∧ True) (by kernel_rfl) ⟨trivial, trivial⟩ ?_
                      refine VO.nil ?_
                      show VW _ _ _ _ _ _ _
                      refine VW.ret ?_
                      replace h := Option.some.inj h
                      subst h
                      exact retR [] (by kernel_rfl) rfl
                    · replace h := cond_f h hb; clear hb
                      refine VW.skip ?_
                      show VW _ _ _ _ _ _ _
                      refine VW.region ?_
                      refine VO.seg T_ok .dp 3 [0, 1, 5] [] (s' := ⟨[(0, .lf (.v (.sl Y40) a0)), (1, I y200), (5, I (IntKind.i64.wrap (x135 + (1 : Int))))], []⟩) (φ := True ∧ True ∧ True ∧ True) (by kernel_rfl) ⟨trivial, trivial, trivial, trivial⟩ ?_
                      refine VO.nil ?_
                      exact around [.ren [0, 1, 5] []] (by kernel_rfl) ⟨y200, (IntKind.i64.wrap (x135 + (1 : Int))), rfl, h⟩
      · replace h := cond_f h hb; clear hb
        refine VW.exit ?_
        exact arrive [.ren [1] []] (by kernel_rfl) ⟨x134, rfl, h⟩
  · rintro s ⟨x100, rfl, h⟩
    unfold F15_j0 at h
    refine VW.seq ?_
    refine VW.region ?_
    refine VO.seg T_ok .dp 2 [4] [] (s' := ⟨[(4, I x100)], []⟩) (φ := True ∧ True ∧ True) (by kernel_rfl) ⟨trivial, trivial, trivial⟩ ?_
    refine VO.nil ?_
    show VW _ _ _ _ _ _ _
    refine VW.ret ?_
    replace h := Option.some.inj h
    subst h
    exact retR [] (by kernel_rfl) rfl

/- loop.example/g00844/laws.FnExactFill -/
def F3 (N : Nat) (a0 : (List (Int × (ByteArray × (Int × (Int × (Int × (Bool × (List Int))))))))) (a1 : (List Int)) : Option (Bool) :=
  cond (decide ((a1.length : Int) > (1048576 : Int))) (some true) (andO (F6 N a0 (1048576 : Int)) fun y1 => cond (decide (y1 < (0 : Int))) (some true) (andO (F8 N a0) fun y2 => andO (F9 N a1) fun y3 => andO (F7 N y2 y3) fun y4 => andO (F8 N a0) fun y5 => andO (F9 N a1) fun y6 => andO (F10 N y5 y6) fun y7 => andO (F11 N y7.1 y4.1) fun y9 => cond (!y9) (some false) (cond (!(y7.2 == y4.2)) (some false) (andO (F8 N a0) fun y12 => andO (F11 N y5 y12) fun y13 => cond (!y13) (some false) (andO (F9 N a1) fun y16 => andO (F12 N y6 y16) fun y17 => cond (!y17) (some false) (andO (F13 N y5 (1 : Int)) fun y18 => andO (F14 N y6 y18.2) fun y19 => cond (decide (y19.2 < (0 : Int))) (some false) (andO (F11 N y7.1 y4.1) fun y21 => cond (!y21) (some false) (cond (!(y7.2 == y4.2)) (some false) (andO (F13 N y7.1 (1 : Int)) fun y22 => andO (F15 N y22.1 (1 : Int)) fun y23 => cond (decide (y23 < (0 : Int))) (some false) (cond (y23 != y22.2) (some false) (andO (F8 N a0) fun y24 => andO (F9 N a1) fun y25 => andO (F10 N y24 y25) fun y26 => andO (F11 N y26.1 y4.1) fun y28 => cond (!y28) (some false) (cond (!(y26.2 == y4.2)) (some false) (andO (F15 N y22.1 (1 : Int)) fun y29 => cond (decide (y29 < (0 : Int))) (some false) (cond (y29 != y22.2) (some false) (some true)))))))))))))))
theorem ok3 (N : Nat) (a0 : (List (Int × (ByteArray × (Int × (Int × (Int × (Bool × (List Int))))))))) (a1 : (List Int)) {r : Bool} (h : F3 N a0 a1 = some r) : Con Go.Proofs.Try.prog 3 [.lf (.v (.sl Y40) a0), .lf (.v (.sl (.int .i64)) a1)] [.lf (.v .bool r)] := by
  refine ⟨enters_of Go.Proofs.Try.func3 rfl (by decide), HC.intro [.lf (.v .bool)] T_ok Go.Proofs.Try.func3 rfl (Nat.le_of_ble_eq_true rfl) (Nat.le_of_ble_eq_true rfl) fun w0 E0 => ?_⟩
  unfold F3 at h
  show VW _ _ _ _ _ (retQ _ _ _ _) _
  refine VW.seq ?_
  refine VW.region ?_
  refine VO.seg T_ok .dp 1 [0, 1] [] (s' := ⟨[(0, .lf (.v (.sl Y40) a0)), (1, .lf (.v (.sl (.int .i64)) a1))], []⟩) (φ := True ∧ True) (by kernel_rfl) ⟨trivial, trivial⟩ ?_
  refine VO.nil ?_
  show VW _ _ _ _ _ _ _
  refine VW.seq ?_
  refine VW.seq ?_
  refine VW.region ?_
  refine VO.seg T_ok .dp 3 [0, 1, 19] [] (s' := ⟨[(0, .lf (.v (.sl Y40) a0)), (1, .lf (.v (.sl (.int .i64)) a1)), (19, B (decide ((a1.length : Int) > (1048576 : Int))))], []⟩) (φ := True ∧ True ∧ True ∧ True) (by kernel_rfl) ⟨trivial, trivial, trivial, trivial⟩ ?_
  refine VO.nil ?_
  show VW _ _ _ _ _ _ _
  refine VW.cond (b := (decide ((a1.length : Int) > (1048576 : Int)))) (by kernel_rfl) (fun hb => ?_) (fun hb => ?_)
  · replace h := cond_t h hb; clear hb
    refine VW.seq ?_
    refine VW.region ?_
    refine VO.seg T_ok .dp 1 [4] [] (s' := ⟨[(4, B true)], []⟩) (φ := True ∧ True) (by kernel_rfl) ⟨trivial, trivial⟩ ?_
    refine VO.nil ?_
    show VW _ _ _ _ _ _ _
    refine VW.ret ?_
    replace h := Option.some.inj h
    subst h
    exact retR [] (by kernel_rfl) rfl
  · replace h := cond_f h hb; clear hb
    refine VW.skip ?_
    show VW _ _ _ _ _ _ _
    refine VW.seq ?_
    refine VW.region ?_
    refine VO.seg T_ok .dp 1 [0, 1, 5] [] (s' := ⟨[(0, .lf (.v (.sl Y40) a0)), (1, .lf (.v (.sl (.int .i64)) a1)), (5, I (1048576 : Int))], []⟩) (φ := True ∧ True) (by kernel_rfl) ⟨trivial, trivial⟩ ?_
    refine VO.nil ?_
    show VW _ _ _ _ _ _ _
    refine VW.seq ?_
    refine VW.region ?_
    refine VO.seg T_ok .dp 2 [0, 1, 20, 21] [] (s' := ⟨[(0, .lf (.v (.sl Y40) a0)), (1, .lf (.v (.sl (.int .i64)) a1)), (20, .lf (.v (.sl Y40) a0)), (21, I (1048576 : Int))], []⟩) (φ := True ∧ True ∧ True) (by kernel_rfl) ⟨trivial, trivial, trivial⟩ ?_
    obtain ⟨y1, hy, h⟩ := andO_some h
    refine VO.call false [.t (.sl Y40), .t (.int .i64)] [] T_ok (d := some 22) (by kernel_rfl) (ok6 N _ _ hy) rfl ?_
    refine VO.seg T_ok .dp 1 [0, 1, 5] [] (s' := ⟨[(0, .lf (.v (.sl Y40) a0)), (1, .lf (.v (.sl (.int .i64)) a1)), (5, I y1)], []⟩) (φ := True ∧ True) (by kernel_rfl) ⟨trivial, trivial⟩ ?_
    refine VO.nil ?_
    show VW _ _ _ _ _ _ _
    refine VW.seq ?_
    refine VW.seq ?_
    refine VW.region ?_
    refine VO.seg T_ok .dp 2 [0, 1, 24] [] (s' := ⟨[(0, .lf (.v (.sl Y40) a0)), (1, .lf (.v (.sl (.int .i64)) a1)), (24, B (decide (y1 < (0 : Int))))], []⟩) (φ := True ∧ True ∧ True) (by kernel_rfl) ⟨trivial, trivial, trivial⟩ ?_
    refine VO.nil ?_
    show VW _ _ _ _ _ _ _
    refine VW.cond (b := (decide (y1 < (0 : Int)))) (by kernel_rfl) (fun hb => ?_) (fun hb => ?_)
    · replace h := cond_t h hb; clear hb
      refine VW.seq ?_
      refine VW.region ?_
      refine VO.seg T_ok .dp 1 [4] [] (s' := ⟨[(4, B true)], []⟩) (φ := True ∧ True) (by kernel_rfl) ⟨trivial, trivial⟩ ?_
      refine VO.nil ?_
      show VW _ _ _ _ _ _ _
      refine VW.ret ?_
      replace h := Option.some.inj h
      subst h
      exact retR [] (by kernel_rfl) rfl
    · replace h := cond_f h hb; clear hb
      refine VW.skip ?_
      show VW _ _ _ _ _ _ _
      refine VW.seq ?_
      refine VW.region ?_
      refine VO.seg T_ok .dp 1 [0, 1, 26] [] (s' := ⟨[(0, .lf (.v (.sl Y40) a0)), (1, .lf (.v (.sl (.int .i64)) a1)), (26, .lf (.v (.sl Y40) a0))], []⟩) (φ := True ∧ True) (by kernel_rfl) ⟨trivial, trivial⟩ ?_
      obtain ⟨y2, hy, h⟩ := andO_some h
      refine VO.call false [.t (.sl Y40)] [] T_ok (d := some 27) (by kernel_rfl) (ok8 N _ hy) rfl ?_
      refine VO.seg T_ok .dp 1 [0, 1, 27, 28] [0] (s' := ⟨[(0, .lf (.v (.sl Y40) a0)), (1, .lf (.v (.sl (.int .i64)) a1)), (27, .lf (.hd 0 0 none)), (28, .lf (.v (.sl (.int .i64)) a1))], [ar 0 Y40 y2 .dp]⟩) (φ := True ∧ True) (by kernel_rfl) ⟨trivial, trivial⟩ ?_
      obtain ⟨y3, hy, h⟩ := andO_some h
      refine VO.call false [.t (.sl (.int .i64))] [] T_ok (d := some 29) (by kernel_rfl) (ok9 N _ hy) rfl ?_
      obtain ⟨y4, hy, h⟩ := andO_some h
      refine VO.call true [.t (.sl Y40), .t (.sl (.int .i64))] [] T_ok (d := some 30) (by kernel_rfl) (ok7 N _ _ hy) rfl ?_
      refine VO.seg T_ok .dp 5 [0, 1, 6, 7] [2] (s' := ⟨[(0, .lf (.v (.sl Y40) a0)), (1, .lf (.v (.sl (.int .i64)) a1)), (6, .lf (.hd 0 0 none)), (7, B y4.2)], [ar 0 Y40 y4.1 .dp]⟩) (φ := True ∧ True ∧ True ∧ True ∧ True ∧ True) (by kernel_rfl) ⟨trivial, trivial, trivial, trivial, trivial, trivial⟩ ?_
      refine VO.nil ?_
      show VW _ _ _ _ _ _ _
      refine VW.seq ?_
      refine VW.region ?_
      refine VO.seg T_ok .dp 1 [0, 1, 6, 7, 33] [0] (s' := ⟨[(0, .lf (.v (.sl Y40) a0)), (1, .lf (.v (.sl (.int .i64)) a1)), (6, .lf (.hd 0 0 none)), (7, B y4.2), (33, .lf (.v (.sl Y40) a0))], [ar 0 Y40 y4.1 .dp]⟩) (φ := True ∧ True) (by kernel_rfl) ⟨trivial, trivial⟩ ?_
      obtain ⟨y5, hy, h⟩ := andO_some h
      refine VO.call false [.t (.sl Y40)] [] T_ok (d := some 34) (by kernel_rfl) (ok8 N _ hy) rfl ?_
      refine VO.seg T_ok .dp 1 [0, 1, 6, 7, 8] [0, 1] (s' := ⟨[(0, .lf (.v (.sl Y40) a0)), (1, .lf (.v (.sl (.int .i64)) a1)), (6, .lf (.hd 0 0 none)), (7, B y4.2), (8, .lf (.hd 1 0 none))], [ar 0 Y40 y4.1 .dp, ar 0 Y40 y5 .dp]⟩) (φ := True ∧ True) (by kernel_rfl) ⟨trivial, trivial⟩ ?_
      refine VO.nil ?_
      show VW _ _ _ _ _ _ _
      refine VW.seq ?_
      refine VW.region ?_
      refine VO.seg T_ok .dp 1 [0, 1, 6, 7, 8, 35] [0, 1] (s' := ⟨[(0, .lf (.v (.sl Y40) a0)), (1, .lf (.v (.sl (.int .i64)) a1)), (6, .lf (.hd 0 0 none)), (7, B y4.2), (8, .lf (.hd 1 0 none)), (35, .lf (.v (.sl (.int .i64)) a1))], [ar 0 Y40 y4.1 .dp, ar 0 Y40 y5 .dp]⟩) (φ := True ∧ True) (by kernel_rfl) ⟨trivial, trivial⟩ ?_
      obtain ⟨y6, hy, h⟩ := andO_some h
      refine VO.call false [.t (.sl (.int .i64))] [] T_ok (d := some 36) (by kernel_rfl) (ok9 N _ hy) rfl ?_
      refine VO.seg T_ok .dp 1 [0, 1, 6, 7, 8, 9] [0, 1, 2] (s' := ⟨[(0, .lf (.v (.sl Y40) a0)), (1, .lf (.v (.sl (.int .i64)) a1)), (6, .lf (.hd 0 0 none)), (7, B y4.2), (8, .lf (.hd 1 0 none)), (9, .lf (.hd 2 0 none))], [ar 0 Y40 y4.1 .dp, ar 0 Y40 y5 .dp, ar 0 (.int .i64) y6 .dp]⟩) (φ := True ∧ True) (by kernel_rfl) ⟨trivial, trivial⟩ ?_
      refine VO.nil ?_
      show VW _ _ _ _ _ _ _
      refine VW.seq ?_
      refine VW.region ?_
      refine VO.seg T_ok .dp 2 [0, 1, 6, 7, 8, 9, 38, 39] [0, 1, 2] (s' := ⟨[(0, .lf (.v (.sl Y40) a0)), (1, .lf (.v (.sl (.int .i64)) a1)), (6, .lf (.hd 0 0 none)), (7, B y4.2), (8, .lf (.hd 1 0 none)), (9, .lf (.hd 2 0 none)), (38, .lf (.hd 1 0 none)), (39, .lf (.hd 2 0 none))], [ar 0 Y40 y4.1 .dp, ar 0 Y40 y5 .dp, ar 0 (.int .i64) y6 .dp]⟩) (φ := True ∧ True ∧ True) (by kernel_rfl) ⟨trivial, trivial, trivial⟩ ?_
      obtain ⟨y7, hy, h⟩ := andO_some h
      refine VO.call true [.t (.sl Y40), .t (.sl (.int .i64))] [] T_ok (d := some 40) (by kernel_rfl) (ok10 N _ _ hy) rfl ?_
      refine VO.seg T_ok .dp 5 [0, 1, 6, 7, 8, 9, 10, 11] [0, 1, 2, 3] (s' := ⟨[(0, .lf (.v (.sl Y40) a0)), (1, .lf (.v (.sl (.int .i64)) a1)), (6, .lf (.hd 0 0 none)), (7, B y4.2), (8, .lf (.hd 1 0 none)), (9, .lf (.hd 2 0 none)), (10, .lf (.hd 3 0 none)), (11, B y7.2)], [ar 0 Y40 y4.1 .dp, ar 0 Y40 y5 .dp, ar 0 (.int .i64) y6 .dp, ar 0 Y40 y7.1 .dp]⟩) (φ := True ∧ True ∧ True ∧ True ∧ True ∧ True) (by kernel_rfl) ⟨trivial, trivial, trivial, trivial, trivial, trivial⟩ ?_
      refine VO.nil ?_
      show VW _ _ _ _ _ _ _
      refine VW.seq ?_
      refine VW.seq ?_
      refine VW.region ?_
      refine VO.seg T_ok .dp 2 [0, 1, 6, 7, 8, 9, 10, 11, 43, 44] [0, 1, 2, 3] (s' := ⟨[(0, .lf (.v (.sl Y40) a0)), (1, .lf (.v (.sl (.int .i64)) a1)), (6, .lf (.hd 0 0 none)), (7, B y4.2), (8, .lf (.hd 1 0 none)), (9, .lf (.hd 2 0 none)), (10, .lf (.hd 3 0 none)), (11, B y7.2), (43, .lf (.hd 3 0 none)), (44, .lf (.hd 0 0 none))], [ar 0 Y40 y4.1 .dp, ar 0 Y40 y5 .dp, ar 0 (.int .i64) y6 .dp, ar 0 Y40 y7.1 .dp]⟩) (φ := True ∧ True ∧ True) (by kernel_rfl) ⟨trivial, trivial, trivial⟩ ?_
      obtain ⟨y9, hy, h⟩ := andO_some h
      refine VO.call true [.t (.sl Y40), .t (.sl Y40)] [] T_ok (d := some 45) (by kernel_rfl) (ok11 N _ _ hy) rfl ?_
      refine VO.seg T_ok .dp 2 [0, 1, 6, 7, 8, 9, 10, 11, 47] [0, 1, 2, 3] (s' := ⟨[(0, .lf (.v (.sl Y40) a0)), (1, .lf (.v (.sl (.int .i64)) a1)), (6, .lf (.hd 0 0 none)), (7, B y4.2), (8, .lf (.hd 1 0 none)), (9, .lf (.hd 2 0 none)), (10, .lf (.hd 3 0 none)), (11, B y7.2), (47, B (!y9))], [ar 0 Y40 y4.1 .dp, ar 0 Y40 y5 .dp, ar 0 (.int .i64) y6 .dp, ar 0 Y40 y7.1 .dp]⟩) (φ := True ∧ True ∧ True) (by kernel_rfl) ⟨trivial, trivial, trivial⟩ ?_
      refine VO.splitB 47 (b := (!y9)) (by kernel_rfl) (fun hb => ?_) (fun hb => ?_)
      · replace h := cond_t h hb; clear hb
        refine VO.seg T_ok .dp 4 [0, 1, 6, 7, 8, 9, 10, 11, 51] [0, 1, 2, 3] (s' := ⟨[(0, .lf (.v (.sl Y40) a0)), (1, .lf (.v (.sl (.int .i64)) a1)), (6, .lf (.hd 0 0 none)), (7, B y4.2), (8, .lf (.hd 1 0 none)), (9, .lf (.hd 2 0 none)), (10, .lf (.hd 3 0 none)), (11, B y7.2), (51, B true)], [ar 0 Y40 y4.1 .dp, ar 0 Y40 y5 .dp, ar 0 (.int .i64) y6 .dp, ar 0 Y40 y7.1 .dp]⟩) (φ := True ∧ True ∧ True ∧ True ∧ True) (by kernel_rfl) ⟨trivial, trivial, trivial, trivial, trivial⟩ ?_
        refine VO.nil ?_
        show VW _ _ _ _ _ _ _
        refine VW.cond (b := true) (by kernel_rfl) (fun _ => ?_) (fun h' => nomatch h')
        refine VW.seq ?_
        refine VW.region ?_
        refine VO.seg T_ok .dp 1 [4] [] (s' := ⟨[(4, B false)], []⟩) (φ := True ∧ True) (by kernel_rfl) ⟨trivial, trivial⟩ ?_
        refine VO.nil ?_
        show VW _ _ _ _ _ _ _
        refine VW.ret ?_
        replace h := Option.some.inj h
        subst h
        exact retR [] (by kernel_rfl) rfl
      · replace h := cond_f h hb; clear hb
        refine VO.seg T_ok .dp 4 [0, 1, 6, 7, 8, 9, 10, 11, 51] [0, 1, 2, 3] (s' := ⟨[(0, .lf (.v (.sl Y40) a0)), (1, .lf (.v (.sl (.int .i64)) a1)), (6, .lf (.hd 0 0 none)), (7, B y4.2), (8, .lf (.hd 1 0 none)), (9, .lf (.hd 2 0 none)), (10, .lf (.hd 3 0 none)), (11, B y7.2), (51, B (!(y7.2 == y4.2)))], [ar 0 Y40 y4.1 .dp, ar 0 Y40 y5 .dp, ar 0 (.int .i64) y6 .dp, ar 0 Y40 y7.1 .dp]⟩) (φ := True ∧ True ∧ True ∧ True ∧ True) (by kernel_rfl) ⟨trivial, trivial, trivial, trivial, trivial⟩ ?_
        refine VO.nil ?_
        show VW _ _ _ _ _ _ _
        refine VW.cond (b := (!(y7.2 == y4.2))) (by kernel_rfl) (fun hb => ?_) (fun hb => ?_)
        · replace h := cond_t h hb; clear hb
          refine VW.seq ?_
          refine VW.region ?_
          refine VO.seg T_ok .dp 1 [4] [] (s' := ⟨[(4, B false)], []⟩) (φ := True ∧ True) (by kernel_rfl) ⟨trivial, trivial⟩ ?_
          refine VO.nil ?_
          show VW _ _ _ _ _ _ _
          refine VW.ret ?_
          replace h := Option.some.inj h
          subst h
          exact retR [] (by kernel_rfl) rfl
        · replace h := cond_f h hb; clear hb
          refine VW.skip ?_
          show VW _ _ _ _ _ _ _
          refine VW.seq ?_
          refine VW.seq ?_
          refine VW.region ?_
          refine VO.seg T_ok .dp 2 [0, 1, 6, 7, 8, 9, 10, 11, 52, 53] [0, 1, 2, 3] (s' := ⟨[(0, .lf (.v (.sl Y40) a0)), (1, .lf (.v (.sl (.int .i64)) a1)), (6, .lf (.hd 0 0 none)), (7, B y4.2), (8, .lf (.hd 1 0 none)), (9, .lf (.hd 2 0 none)), (10, .lf (.hd 3 0 none)), (11, B y7.2), (52, .lf (.hd 1 0 none)), (53, .lf (.v (.sl Y40) a0))], [ar 0 Y40 y4.1 .dp, ar 0 Y40 y5 .dp, ar 0 (.int .i64) y6 .dp, ar 0 Y40 y7.1 .dp]⟩) (φ := True ∧ True ∧ True) (by kernel_rfl) ⟨trivial, trivial, trivial⟩ ?_
          obtain ⟨y12, hy, h⟩ := andO_some h
          refine VO.call false [.t (.sl Y40)] [] T_ok (d := some 54) (by kernel_rfl) (ok8 N _ hy) rfl ?_
          obtain ⟨y13, hy, h⟩ := andO_some h
          refine VO.call true [.t (.sl Y40), .t (.sl Y40)] [] T_ok (d := some 55) (by kernel_rfl) (ok11 N _ _ hy) rfl ?_
          refine VO.seg T_ok .dp 1 [0, 1, 6, 7, 8, 9, 10, 11, 56] [0, 1, 2, 3] (s' := ⟨[(0, .lf (.v (.sl Y40) a0)), (1, .lf (.v (.sl (.int .i64)) a1)), (6, .lf (.hd 0 0 none)), (7, B y4.2), (8, .lf (.hd 1 0 none)), (9, .lf (.hd 2 0 none)), (10, .lf (.hd 3 0 none)), (11, B y7.2), (56, B (!y13))], [ar 0 Y40 y4.1 .dp, ar 0 Y40 y5 .dp, ar 0 (.int .i64) y6 .dp, ar 0 Y40 y7.1 .dp]⟩) (φ := True ∧ True) (by kernel_rfl) ⟨trivial, trivial⟩ ?_
          refine VO.nil ?_
          show VW _ _ _ _ _ _ _
          refine VW.cond (b := (!y13)) (by kernel_rfl) (fun hb => ?_) (fun hb => ?_)
          · replace h := cond_t h hb; clear hb
            refine VW.seq ?_
            refine VW.region ?_
            refine VO.seg T_ok .dp 1 [4] [] (s' := ⟨[(4, B false)], []⟩) (φ := True ∧ True) (by kernel_rfl) ⟨trivial, trivial⟩ ?_
            refine VO.nil ?_
            show VW _ _ _ _ _ _ _
            refine VW.ret ?_
            replace h := Option.some.inj h
            subst h
            exact retR [] (by kernel_rfl) rfl
          · replace h := cond_f h hb; clear hb
            refine VW.skip ?_
            show VW _ _ _ _ _ _ _
            refine VW.seq ?_
            refine VW.seq ?_
            refine VW.region ?_
            refine VO.seg T_ok .dp 2 [0, 1, 6, 7, 8, 9, 10, 11, 57, 58] [0, 1, 2, 3] (s' := ⟨[(0, .lf (.v (.sl Y40) a0)), (1, .lf (.v (.sl (.int .i64)) a1)), (6, .lf (.hd 0 0 none)), (7, B y4.2), (8, .lf (.hd 1 0 none)), (9, .lf (.hd 2 0 none)), (10, .lf (.hd 3 0 none)), (11, B y7.2), (57, .lf (.hd 2 0 none)), (58, .lf (.v (.sl (.int .i64)) a1))], [ar 0 Y40 y4.1 .dp, ar 0 Y40 y5 .dp, ar 0 (.int .i64) y6 .dp, ar 0 Y40 y7.1 .dp]⟩) (φ := True ∧ True ∧ True) (by kernel_rfl) ⟨trivial, trivial, trivial⟩ ?_
            obtain ⟨y16, hy, h⟩ := andO_some h
            refine VO.call false [.t (.sl (.int .i64))] [] T_ok (d := some 59) (by kernel_rfl) (ok9 N _ hy) rfl ?_
            obtain ⟨y17, hy, h⟩ := andO_some h
            refine VO.call true [.t (.sl (.int .i64)), .t (.sl (.int .i64))] [] T_ok (d := some 60) (by kernel_rfl) (ok12 N _ _ hy) rfl ?_
            refine VO.seg T_ok .dp 1 [0, 1, 6, 7, 8, 9, 10, 11, 61] [0, 1, 2, 3] (s' := ⟨[(0, .lf (.v (.sl Y40) a0)), (1, .lf (.v (.sl (.int .i64)) a1)), (6, .lf (.hd 0 0 none)), (7, B y4.2), (8, .lf (.hd 1 0 none)), (9, .lf (.hd 2 0 none)), (10, .lf (.hd 3 0 none)), (11, B y7.2), (61, B (!y17))], [ar 0 Y40 y4.1 .dp, ar 0 Y40 y5 .dp, ar 0 (.int .i64) y6 .dp, ar 0 Y40 y7.1 .dp]⟩) (φ := True ∧ True) (by kernel_rfl) ⟨trivial, trivial⟩ ?_
            refine VO.nil ?_
            show VW _ _ _ _ _ _ _
            refine VW.cond (b := (!y17)) (by kernel_rfl) (fun hb => ?_) (fun hb => ?_)
            · replace h := cond_t h hb; clear hb
              refine VW.seq ?_
              refine VW.region ?_
              refine VO.seg T_ok .dp 1 [4] [] (s' := ⟨[(4, B false)], []⟩) (φ := True ∧ True) (by kernel_rfl) ⟨trivial, trivial⟩ ?_
              refine VO.nil ?_
              show VW _ _ _ _ _ _ _
              refine VW.ret ?_
              replace h := Option.some.inj h
              subst h
              exact retR [] (by kernel_rfl) rfl
            · replace h := cond_f h hb; clear hb
              refine VW.skip ?_
              show VW _ _ _ _ _ _ _
              refine VW.seq ?_
              refine VW.region ?_
              refine VO.seg T_ok .dp 1 [0, 1, 6, 7, 8, 9, 10, 11, 12] [0, 1, 2, 3] (s' := ⟨[(0, .lf (.v (.sl Y40) a0)), (1, .lf (.v (.sl (.int .i64)) a1)), (6, .lf (.hd 0 0 none)), (7, B y4.2), (8, .lf (.hd 1 0 none)), (9, .lf (.hd 2 0 none)), (10, .lf (.hd 3 0 none)), (11, B y7.2), (12, I (1 : Int))], [ar 0 Y40 y4.1 .dp, ar 0 Y40 y5 .dp, ar 0 (.int .i64) y6 .dp, ar 0 Y40 y7.1 .dp]⟩) (φ := True ∧ True) (by kernel_rfl) ⟨trivial, trivial⟩ ?_
              refine VO.nil ?_
              show VW _ _ _ _ _ _ _
              refine VW.seq ?_
              refine VW.region ?_
              refine VO.seg T_ok .dp 2 [0, 1, 6, 7, 9, 10, 11, 62, 63] [0, 2, 3, 1] (s' := ⟨[(0, .lf (.v (.sl Y40) a0)), (1, .lf (.v (.sl (.int .i64)) a1)), (6, .lf (.hd 0 0 none)), (7, B y4.2), (9, .lf (.hd 1 0 none)), (10, .lf (.hd 2 0 none)), (11, B y7.2), (62, .lf (.hd 3 0 none)), (63, I (1 : Int))], [ar 0 Y40 y4.1 .dp, ar 0 (.int .i64) y6 .dp, ar 0 Y40 y7.1 .dp, ar 0 Y40 y5 .dp]⟩) (φ := True ∧ True ∧ True) (by kernel_rfl) ⟨trivial, trivial, trivial⟩ ?_
              obtain ⟨y18, hy, h⟩ := andO_some h
              refine VO.callM [3] [.t (.sl Y40), .t (.int .i64)] (d := some 64) (by kernel_rfl) (by kernel_rfl) (ok13 N _ _ hy) (by kernel_rfl) ?_
              refine VO.seg T_ok .dp 1 [0, 1, 6, 7, 9, 10, 11, 12] [0, 1, 2] (s' := ⟨[(0, .lf (.v (.sl Y40) a0)), (1, .lf (.v (.sl (.int .i64)) a1)), (6, .lf (.hd 0 0 none)), (7, B y4.2), (9, .lf (.hd 1 0 none)), (10, .lf (.hd 2 0 none)), (11, B y7.2), (12, I y18.2)], [ar 0 Y40 y4.1 .dp, ar 0 (.int .i64) y6 .dp, ar 0 Y40 y7.1 .dp]⟩) (φ := True ∧ True) (by kernel_rfl) ⟨trivial, trivial⟩ ?_
              refine VO.nil ?_
              show VW _ _ _ _ _ _ _
              refine VW.seq ?_
              refine VW.region ?_
              refine VO.seg T_ok .dp 2 [0, 1, 6, 7, 10, 11, 65, 66] [0, 2, 1] (s' := ⟨[(0, .lf (.v (.sl Y40) a0)), (1, .lf (.v (.sl (.int .i64)) a1)), (6, .lf (.hd 0 0 none)), (7, B y4.2), (10, .lf (.hd 1 0 none)), (11, B y7.2), (65, .lf (.hd 2 0 none)), (66, I y18.2)], [ar 0 Y40 y4.1 .dp, ar 0 Y40 y7.1 .dp, ar 0 (.int .i64) y6 .dp]⟩) (φ := True ∧ True ∧ True) (by kernel_rfl) ⟨trivial, trivial, trivial⟩ ?_
              obtain ⟨y19, hy, h⟩ := andO_some h
              refine VO.callM [2] [.t (.sl (.int .i64)), .t (.int .i64)] (d := some 67) (by kernel_rfl) (by kernel_rfl) (ok14 N _ _ hy) (by kernel_rfl) ?_
              refine VO.seg T_ok .dp 1 [0, 1, 6, 7, 10, 11, 12] [0, 1] (s' := ⟨[(0, .lf (.v (.sl Y40) a0)), (1, .lf (.v (.sl (.int .i64)) a1)), (6, .lf (.hd 0 0 none)), (7, B y4.2), (10, .lf (.hd 1 0 none)), (11, B y7.2), (12, I y19.2)], [ar 0 Y40 y4.1 .dp, ar 0 Y40 y7.1 .dp]⟩) (φ := True ∧ True) (by kernel_rfl) ⟨trivial, trivial⟩ ?_
              refine VO.nil ?_
              show VW _ _ _ _ _ _ _
              refine VW.seq ?_
              refine VW.seq ?_
              refine VW.region ?_
              refine VO.seg T_ok .dp 3 [0, 1, 6, 7, 10, 11, 70] [0, 1] (s' := ⟨[(0, .lf (.v (.sl Y40) a0)), (1, .lf (.v (.sl (.int .i64)) a1)), (6, .lf (.hd 0 0 none)), (7, B y4.2), (10, .lf (.hd 1 0 none)), (11, B y7.2), (70, B (decide (y19.2 < (0 : Int))))], [ar 0 Y40 y4.1 .dp, ar 0 Y40 y7.1 .dp]⟩) (φ := True ∧ True ∧ True ∧ True) (by kernel_rfl) ⟨trivial, trivial, trivial, trivial⟩ ?_
              refine VO.splitB 70 (b := (decide (y19.2 < (0 : Int)))) (by kernel_rfl) (fun hb => ?_) (fun hb => ?_)
              · replace h := cond_t h hb; clear hb
                refine VO.seg T_ok .dp 10 [0, 1, 6, 7, 10, 80] [0, 1] (s' := ⟨[(0, .lf (.v (.sl Y40) a0)), (1, .lf (.v (.sl (.int .i64)) a1)), (6, .lf (.hd 0 0 none)), (7, B y4.2), (10, .lf (.hd 1 0 none)), (80, B true)], [ar 0 Y40 y4.1 .dp, ar 0 Y40 y7.1 .dp]⟩) (φ := True ∧ True ∧ True ∧ True ∧ True ∧ True ∧ True ∧ True ∧ True ∧ True ∧ True) (by kernel_rfl) ⟨trivial, trivial, trivial, trivial, trivial, trivial, trivial, trivial, trivial, trivial, trivial⟩ ?_
                refine VO.nil ?_
                show VW _ _ _ _ _ _ _
                refine VW.cond (b := true) (by kernel_rfl) (fun _ => ?_) (fun h' => nomatch h')
                refine VW.seq ?_
                refine VW.region ?_
                refine VO.seg T_ok .dp 1 [4] [] (s' := ⟨[(4, B false)], []⟩) (φ := True ∧ True) (by kernel_rfl) ⟨trivial, trivial⟩ ?_
                refine VO.nil ?_
                show VW _ _ _ _ _ _ _
                refine VW.ret ?_
                replace h := Option.some.inj h
                subst h
                exact retR [] (by kernel_rfl) rfl
              · replace h := cond_f h hb; clear hb
                refine VO.seg T_ok .dp 2 [0, 1, 6, 7, 10, 11, 70, 71, 72] [0, 1] (s' := ⟨[(0, .lf (.v (.sl Y40) a0)), (1, .lf (.v (.sl (.int .i64)) a1)), (6, .lf (.hd 0 0 none)), (7, B y4.2), (10, .lf (.hd 1 0 none)), (11, B y7.2), (70, B false), (71, .lf (.hd 1 0 none)), (72, .lf (.hd 0 0 none))], [ar 0 Y40 y4.1 .dp, ar 0 Y40 y7.1 .dp]⟩) (φ := True ∧ True ∧ True) (by kernel_rfl) ⟨trivial, trivial, trivial⟩ ?_
                refine VO.on (j := 2) (want := false) (d := 70) (b := false) rfl rfl rfl (by kernel_rfl) rfl ?_
                obtain ⟨y21, hy, h⟩ := andO_some h
                refine VO.call true [.t (.sl Y40), .t (.sl Y40)] [] T_ok (d := some 73) (by kernel_rfl) (ok11 N _ _ hy) rfl ?_
                refine VO.seg T_ok .dp 3 [0, 1, 6, 7, 10, 11, 76] [0, 1] (s' := ⟨[(0, .lf (.v (.sl Y40) a0)), (1, .lf (.v (.sl (.int .i64)) a1)), (6, .lf (.hd 0 0 none)), (7, B y4.2), (10, .lf (.hd 1 0 none)), (11, B y7.2), (76, B (!y21))], [ar 0 Y40 y4.1 .dp, ar 0 Y40 y7.1 .dp]⟩) (φ := True ∧ True ∧ True ∧ True) (by kernel_rfl) ⟨trivial, trivial, trivial, trivial⟩ ?_
                refine VO.splitB 76 (b := (!y21)) (by kernel_rfl) (fun hb => ?_) (fun hb => ?_)
                · replace h := cond_t h hb; clear hb
                  refine VO.seg T_ok .dp 4 [0, 1, 6, 7, 10, 80] [0, 1] (s' := ⟨[(0, .lf (.v (.sl Y40) a0)), (1, .lf (.v (.sl (.int .i64)) a1)), (6, .lf (.hd 0 0 none)), (7, B y4.2), (10, .lf (.hd 1 0 none)), (80, B true)], [ar 0 Y40 y4.1 .dp, ar 0 Y40 y7.1 .dp]⟩) (φ := True ∧ True ∧ True ∧ True ∧ True) (by kernel_rfl) ⟨trivial, trivial, trivial, trivial, trivial⟩ ?_
                  refine VO.nil ?_
                  show VW _ _ _ _ _ _ _
                  refine VW.cond (b := true) (by kernel_rfl) (fun _ => ?_) (fun h' => nomatch h')
                  refine VW.seq ?_
                  refine VW.region ?_
                  refine VO.seg T_ok .dp 1 [4] [] (s' := ⟨[(4, B false)], []⟩) (φ := True ∧ True) (by kernel_rfl) ⟨trivial, trivial⟩ ?_
                  refine VO.nil ?_
                  show VW _ _ _ _ _ _ _
                  refine VW.ret ?_
                  replace h := Option.some.inj h
                  subst h
                  exact retR [] (by kernel_rfl) rfl
                · replace h := cond_f h hb; clear hb
                  refine VO.seg T_ok .dp 4 [0, 1, 6, 7, 10, 80] [0, 1] (s' := ⟨[(0, .lf (.v (.sl Y40) a0)), (1, .lf (.v (.sl (.int .i64)) a1)), (6, .lf (.hd 0 0 none)), (7, B y4.2), (10, .lf (.hd 1 0 none)), (80, B (!(y7.2 == y4.2)))], [ar 0 Y40 y4.1 .dp, ar 0 Y40 y7.1 .dp]⟩) (φ := True ∧ True ∧ True ∧ True ∧ True) (by kernel_rfl) ⟨trivial, trivial, trivial, trivial, trivial⟩ ?_
                  refine VO.nil ?_
                  show VW _ _ _ _ _ _ _
                  refine VW.cond (b := (!(y7.2 == y4.2))) (by kernel_rfl) (fun hb => ?_) (fun hb => ?_)
                  · replace h := cond_t h hb; clear hb
                    refine VW.seq ?_
                    refine VW.region ?_
                    refine VO.seg T_ok .dp 1 [4] [] (s' := ⟨[(4, B false)], []⟩) (φ := True ∧ True) (by kernel_rfl) ⟨trivial, trivial⟩ ?_
                    refine VO.nil ?_
                    show VW _ _ _ _ _ _ _
                    refine VW.ret ?_
                    replace h := Option.some.inj h
                    subst h
                    exact retR [] (by kernel_rfl) rfl
                  · replace h := cond_f h hb; clear hb
                    refine VW.skip ?_
                    show VW _ _ _ _ _ _ _
                    refine VW.seq ?_
                    refine VW.region ?_
                    refine VO.seg T_ok .dp 1 [0, 1, 6, 7, 10, 13] [0, 1] (s' := ⟨[(0, .lf (.v (.sl Y40) a0)), (1, .lf (.v (.sl (.int .i64)) a1)), (6, .lf (.hd 0 0 none)), (7, B y4.2), (10, .lf (.hd 1 0 none)), (13, I (1 : Int))], [ar 0 Y40 y4.1 .dp, ar 0 Y40 y7.1 .dp]⟩) (φ := True ∧ True) (by kernel_rfl) ⟨trivial, trivial⟩ ?_
                    refine VO.nil ?_
                    show VW _ _ _ _ _ _ _
                    refine VW.seq ?_
                    refine VW.region ?_
                    refine VO.seg T_ok .dp 2 [0, 1, 6, 7, 10, 81, 82] [0, 1] (s' := ⟨[(0, .lf (.v (.sl Y40) a0)), (1, .lf (.v (.sl (.int .i64)) a1)), (6, .lf (.hd 0 0 none)), (7, B y4.2), (10, .lf (.hd 1 0 none)), (81, .lf (.hd 1 0 none)), (82, I (1 : Int))], [ar 0 Y40 y4.1 .dp, ar 0 Y40 y7.1 .dp]⟩) (φ := True ∧ True ∧ True) (by kernel_rfl) ⟨trivial, trivial, trivial⟩ ?_
                    obtain ⟨y22, hy, h⟩ := andO_some h
                    refine VO.callM [1] [.t (.sl Y40), .t (.int .i64)] (d := some 83) (by kernel_rfl) (by kernel_rfl) (ok13 N _ _ hy) (by kernel_rfl) ?_
                    refine VO.seg T_ok .dp 1 [0, 1, 6, 7, 10, 13] [0, 1] (s' := ⟨[(0, .lf (.v (.sl Y40) a0)), (1, .lf (.v (.sl (.int .i64)) a1)), (6, .lf (.hd 0 0 none)), (7, B y4.2), (10, .lf (.hd 1 0 none)), (13, I y22.2)], [ar 0 Y40 y4.1 .dp, ar 0 Y40 y22.1 .dp]⟩) (φ := True ∧ True) (by kernel_rfl) ⟨trivial, trivial⟩ ?_
                    refine VO.nil ?_
                    show VW _ _ _ _ _ _ _
                    refine VW.seq ?_
                    refine VW.region ?_
                    refine VO.seg T_ok .dp 1 [0, 1, 6, 7, 10, 13, 14] [0, 1] (s' := ⟨[(0, .lf (.v (.sl Y40) a0)), (1, .lf (.v (.sl (.int .i64)) a1)), (6, .lf (.hd 0 0 none)), (7, B y4.2), (10, .lf (.hd 1 0 none)), (13, I y22.2), (14, I (1 : Int))], [ar 0 Y40 y4.1 .dp, ar 0 Y40 y22.1 .dp]⟩) (φ := True ∧ True) (by kernel_rfl) ⟨trivial, trivial⟩ ?_
                    refine VO.nil ?_
                    show VW _ _ _ _ _ _ _
                    refine VW.seq ?_
                    refine VW.region ?_
                    refine VO.seg T_ok .dp 2 [0, 1, 6, 7, 10, 13, 84, 85] [0, 1] (s' := ⟨[(0, .lf (.v (.sl Y40) a0)), (1, .lf (.v (.sl (.int .i64)) a1)), (6, .lf (.hd 0 0 none)), (7, B y4.2), (10, .lf (.hd 1 0 none)), (13, I y22.2), (84, .lf (.hd 1 0 none)), (85, I (1 : Int))], [ar 0 Y40 y4.1 .dp, ar 0 Y40 y22.1 .dp]⟩) (φ := True ∧ True ∧ True) (by kernel_rfl) ⟨trivial, trivial, trivial⟩ ?_
                    obtain ⟨y23, hy, h⟩ := andO_some h
                    refine VO.call true [.t (.sl Y40), .t (.int .i64)] [] T_ok (d := some 86) (by kernel_rfl) (ok15 N _ _ hy) rfl ?_
                    refine VO.seg T_ok .dp 1 [0, 1, 6, 7, 10, 13, 14] [0, 1] (s' := ⟨[(0, .lf (.v (.sl Y40) a0)), (1, .lf (.v (.sl (.int .i64)) a1)), (6, .lf (.hd 0 0 none)), (7, B y4.2), (10, .lf (.hd 1 0 none)), (13, I y22.2), (14, I y23)], [ar 0 Y40 y4.1 .dp, ar 0 Y40 y22.1 .dp]⟩) (φ := True ∧ True) (by kernel_rfl) ⟨trivial, trivial⟩ ?_
                    refine VO.nil ?_
                    show VW _ _ _ _ _ _ _
                    refine VW.seq ?_
                    refine VW.seq ?_
                    refine VW.region ?_
                    refine VO.seg T_ok .dp 2 [0, 1, 6, 7, 10, 13, 14, 88] [0, 1] (s' := ⟨[(0, .lf (.v (.sl Y40) a0)), (1, .lf (.v (.sl (.int .i64)) a1)), (6, .lf (.hd 0 0 none)), (7, B y4.2), (10, .lf (.hd 1 0 none)), (13, I y22.2), (14, I y23), (88, B (decide (y23 < (0 : Int))))], [ar 0 Y40 y4.1 .dp, ar 0 Y40 y22.1 .dp]⟩) (φ := True ∧ True ∧ True) (by kernel_rfl) ⟨trivial, trivial, trivial⟩ ?_
                    refine VO.nil ?_
                    show VW _ _ _ _ _ _ _
                    refine VW.cond (b := (decide (y23 < (0 : Int)))) (by kernel_rfl) (fun hb => ?_) (fun hb => ?_)
                    · replace h := cond_t h hb; clear hb
                      refine VW.seq ?_
                      refine VW.region ?_
                      refine VO.seg T_ok .dp 1 [4] [] (s' := ⟨[(4, B false)], []⟩) (φ := True ∧ True) (by kernel_rfl) ⟨trivial, trivial⟩ ?_
                      refine VO.nil ?_
                      show VW _ _ _ _ _ _ _
                      refine VW.ret ?_
                      replace h := Option.some.inj h
                      subst h
                      exact retR [] (by kernel_rfl) rfl
                    · replace h := cond_f h hb; clear hb
                      refine VW.skip ?_
                      show VW _ _ _ _ _ _ _
                      refine VW.seq ?_
                      refine VW.seq ?_
                      refine VW.region ?_
                      refine VO.seg T_ok .dp 3 [0, 1, 6, 7, 10, 13, 91] [0, 1] (s' := ⟨[(0, .lf (.v (.sl Y40) a0)), (1, .lf (.v (.sl (.int .i64)) a1)), (6, .lf (.hd 0 0 none)), (7, B y4.2), (10, .lf (.hd 1 0 none)), (13, I y22.2), (91, B (y23 != y22.2))], [ar 0 Y40 y4.1 .dp, ar 0 Y40 y22.1 .dp]⟩) (φ := True ∧ True ∧ True ∧ True) (by kernel_rfl) ⟨trivial, trivial, trivial, trivial⟩ ?_
                      refine VO.nil ?_
                      show VW _ _ _ _ _ _ _
                      refine VW.cond (b := (y23 != y22.2)) (by kernel_rfl) (fun hb => ?_) (fun hb => ?_)
                      · replace h := cond_t h hb; clear hb
                        refine VW.seq ?_
                        refine VW.region ?_
                        refine VO.seg T_ok .dp 1 [4] [] (s' := ⟨[(4, B false)], []⟩) (φ := True ∧ True) (by kernel_rfl) ⟨trivial, trivial⟩ ?_
                        refine VO.nil ?_
                        show VW _ _ _ _ _ _ _
                        refine VW.ret ?_
                        replace h := Option.some.inj h
                        subst h
                        exact retR [] (by kernel_rfl) rfl
                      · replace h := cond_f h hb; clear hb
                        refine VW.skip ?_
                        show VW _ _ _ _ _ _ _
                        refine VW.seq ?_
                        refine VW.region ?_
                        refine VO.seg T_ok .dp 1 [1, 6, 7, 10, 13, 93] [0, 1] (s' := ⟨[(1, .lf (.v (.sl (.int .i64)) a1)), (6, .lf (.hd 0 0 none)), (7, B y4.2), (10, .lf (.hd 1 0 none)), (13, I y22.2), (93, .lf (.v (.sl Y40) a0))], [ar 0 Y40 y4.1 .dp, ar 0 Y40 y22.1 .dp]⟩) (φ := True ∧ True) (by kernel_rfl) ⟨trivial, trivial⟩ ?_
                        obtain ⟨y24, hy, h⟩ := andO_some h
                        refine VO.call false [.t (.sl Y40)] [] T_ok (d := some 94) (by kernel_rfl) (ok8 N _ hy) rfl ?_
                        refine VO.seg T_ok .dp 1 [6, 7, 10, 13, 94, 95] [0, 1, 2] (s' := ⟨[(6, .lf (.hd 0 0 none)), (7, B y4.2), (10, .lf (.hd 1 0 none)), (13, I y22.2), (94, .lf (.hd 2 0 none)), (95, .lf (.v (.sl (.int .i64)) a1))], [ar 0 Y40 y4.1 .dp, ar 0 Y40 y22.1 .dp, ar 0 Y40 y24 .dp]⟩) (φ := True ∧ True) (by kernel_rfl) ⟨trivial, trivial⟩ ?_
                        obtain ⟨y25, hy, h⟩ := andO_some h
                        refine VO.call false [.t (.sl (.int .i64))] [] T_ok (d := some 96) (by kernel_rfl) (ok9 N _ hy) rfl ?_
                        obtain ⟨y26, hy, h⟩ := andO_some h
                        refine VO.call true [.t (.sl Y40), .t (.sl (.int .i64))] [] T_ok (d := some 97) (by kernel_rfl) (ok10 N _ _ hy) rfl ?_
                        refine VO.seg T_ok .dp 5 [6, 7, 10, 13, 15, 16] [0, 1, 4] (s' := ⟨[(6, .lf (.hd 0 0 none)), (7, B y4.2), (10, .lf (.hd 1 0 none)), (13, I y22.2), (15, .lf (.hd 2 0 none)), (16, B y26.2)], [ar 0 Y40 y4.1 .dp, ar 0 Y40 y22.1 .dp, ar 0 Y40 y26.1 .dp]⟩) (φ := True ∧ True ∧ True ∧ True ∧ True ∧ True) (by kernel_rfl) ⟨trivial, trivial, trivial, trivial, trivial, trivial⟩ ?_
                        refine VO.nil ?_
                        show VW _ _ _ _ _ _ _
                        refine VW.seq ?_
                        refine VW.seq ?_
                        refine VW.region ?_
                        refine VO.seg T_ok .dp 2 [7, 10, 13, 16, 100, 101] [1, 2, 0] (s' := ⟨[(7, B y4.2), (10, .lf (.hd 0 0 none)), (13, I y22.2), (16, B y26.2), (100, .lf (.hd 1 0 none)), (101, .lf (.hd 2 0 none))], [ar 0 Y40 y22.1 .dp, ar 0 Y40 y26.1 .dp, ar 0 Y40 y4.1 .dp]⟩) (φ := True ∧ True ∧ True) (by kernel_rfl) ⟨trivial, trivial, trivial⟩ ?_
                        obtain ⟨y28, hy, h⟩ := andO_some h
                        refine VO.call true [.t (.sl Y40), .t (.sl Y40)] [] T_ok (d := some 102) (by kernel_rfl) (ok11 N _ _ hy) rfl ?_
                        refine VO.seg T_ok .dp 2 [7, 10, 13, 16, 104] [0] (s' := ⟨[(7, B y4.2), (10, .lf (.hd 0 0 none)), (13, I y22.2), (16, B y26.2), (104, B (!y28))], [ar 0 Y40 y22.1 .dp]⟩) (φ := True ∧ True ∧ True) (by kernel_rfl) ⟨trivial, trivial, trivial⟩ ?_
                        refine VO.splitB 104 (b := (!y28)) (by kernel_rfl) (fun hb => ?_) (fun hb => ?_)
                        · replace h := cond_t h hb; clear hb
                          refine VO.seg T_ok .dp 4 [10, 13, 108] [0] (s' := ⟨[(10, .lf (.hd 0 0 none)), (13, I y22.2), (108, B true)], [ar 0 Y40 y22.1 .dp]⟩) (φ := True ∧ True ∧ True ∧ True ∧ True) (by kernel_rfl) ⟨trivial, trivial, trivial, trivial, trivial⟩ ?_
                          refine VO.nil ?_
                          show VW _ _ _ _ _ _ _
                          refine VW.cond (b := true) (by kernel_rfl) (fun _ => ?_) (fun h' => nomatch h')
                          refine VW.seq ?_
                          refine VW.region ?_
                          refine VO.seg T_ok .dp 1 [4] [] (s' := ⟨[(4, B false)], []⟩) (φ := True ∧ True) (by kernel_rfl) ⟨trivial, trivial⟩ ?_
                          refine VO.nil ?_
                          show VW _ _ _ _ _ _ _
                          refine VW.ret ?_
                          replace h := Option.some.inj h
                          subst h
                          exact retR [] (by kernel_rfl) rfl
                        · replace h := cond_f h hb; clear hb
                          refine VO.seg T_ok .dp 4 [10, 13, 108] [0] (s' := ⟨[(10, .lf (.hd 0 0 none)), (13, I y22.2), (108, B (!(y26.2 == y4.2)))], [ar 0 Y40 y22.1 .dp]⟩) (φ := True ∧ True ∧ True ∧ True ∧ True) (by kernel_rfl) ⟨trivial, trivial, trivial, trivial, trivial⟩ ?_
                          refine VO.nil ?_
                          show VW _ _ _ _ _ _ _
                          refine VW.cond (b := (!(y26.2 == y4.2))) (by kernel_rfl) (fun hb => ?_) (fun hb => ?_)
                          · replace h := cond_t h hb; clear hb
                            refine VW.seq ?_
                            refine VW.region ?_
                            refine VO.seg T_ok .dp 1 [4] [] (s' := ⟨[(4, B false)], []⟩) (φ := True ∧ True) (by kernel_rfl) ⟨trivial, trivial⟩ ?_
                            refine VO.nil ?_
                            show VW _ _ _ _ _ _ _
                            refine VW.ret ?_
                            replace h := Option.some.inj h
                            subst h
                            exact retR [] (by kernel_rfl) rfl
                          · replace h := cond_f h hb; clear hb
                            refine VW.skip ?_
                            show VW _ _ _ _ _ _ _
                            refine VW.seq ?_
                            refine VW.region ?_
                            refine VO.seg T_ok .dp 1 [10, 13, 14] [0] (s' := ⟨[(10, .lf (.hd 0 0 none)), (13, I y22.2), (14, I (1 : Int))], [ar 0 Y40 y22.1 .dp]⟩) (φ := True ∧ True) (by kernel_rfl) ⟨trivial, trivial⟩ ?_
                            refine VO.nil ?_
                            show VW _ _ _ _ _ _ _
                            refine VW.seq ?_
                            refine VW.region ?_
                            refine VO.seg T_ok .dp 2 [13, 109, 110] [0] (s' := ⟨[(13, I y22.2), (109, .lf (.hd 0 0 none)), (110, I (1 : Int))], [ar 0 Y40 y22.1 .dp]⟩) (φ := True ∧ True ∧ True) (by kernel_rfl) ⟨trivial, trivial, trivial⟩ ?_
                            obtain ⟨y29, hy, h⟩ := andO_some h
                            refine VO.call true [.t (.sl Y40), .t (.int .i64)] [] T_ok (d := some 111) (by kernel_rfl) (ok15 N _ _ hy) rfl ?_
                            refine VO.seg T_ok .dp 1 [13, 14] [] (s' := ⟨[(13, I y22.2), (14, I y29)], []⟩) (φ := True ∧ True) (by kernel_rfl) ⟨trivial, trivial⟩ ?_
                            refine VO.nil ?_
                            show VW _ _ _ _ _ _ _
                            refine VW.seq ?_
                            refine VW.seq ?_
                            refine VW.region ?_
                            refine VO.seg T_ok .dp 2 [13, 14, 113] [] (s' := ⟨[(13, I y22.2), (14, I y29), (113, B (decide (y29 < (0 : Int))))], []⟩) (φ := True ∧ True ∧ True) (by kernel_rfl) ⟨trivial, trivial, trivial⟩ ?_
                            refine VO.nil ?_
                            show VW _ _ _ _ _ _ _
                            refine VW.cond (b := (decide (y29 < (0 : Int)))) (by kernel_rfl) (fun hb => ?_) (fun hb => ?_)
                            · replace h := cond_t h hb; clear hb
                              refine VW.seq ?_
                              refine VW.region ?_
                              refine VO.seg T_ok .dp 1 [4] [] (s' := ⟨[(4, B false)], []⟩) (φ := True ∧ True) (by kernel_rfl) ⟨trivial, trivial⟩ ?_
                              refine VO.nil ?_
                              show VW _ _ _ _ _ _ _
                              refine VW.ret ?_
                              replace h := Option.some.inj h
                              subst h
                              exact retR [] (by kernel_rfl) rfl
                            · replace h := cond_f h hb; clear hb
                              refine VW.skip ?_
                              show VW _ _ _ _ _ _ _
                              refine VW.seq ?_
                              refine VW.seq ?_
                              refine VW.region ?_
                              refine VO.seg T_ok .dp 3 [116] [] (s' := ⟨[(116, B (y29 != y22.2))], []⟩) (φ := True ∧ True ∧ True ∧ True) (by kernel_rfl) ⟨trivial, trivial, trivial, trivial⟩ ?_
                              refine VO.nil ?_
                              show VW _ _ _ _ _ _ _
                              refine VW.cond (b := (y29 != y22.2)) (by kernel_rfl) (fun hb => ?_) (fun hb => ?_)
                              · replace h := cond_t h hb; clear hb
                                refine VW.seq ?_
                                refine VW.region ?_
                                refine VO.seg T_ok .dp 1 [4] [] (s' := ⟨[(4, B false)], []⟩) (φ := True ∧ True) (by kernel_rfl) ⟨trivial, trivial⟩ ?_
                                refine VO.nil ?_
                                show VW _ _ _ _ _ _ _
                                refine VW.ret ?_
                                replace h := Option.some.inj h
                                subst h
                                exact retR [] (by kernel_rfl) rfl
                              · replace h := cond_f h hb; clear hb
                                refine VW.skip ?_
                                show VW _ _ _ _ _ _ _
                                refine VW.seq ?_
                                refine VW.region ?_
                                refine VO.seg T_ok .dp 1 [4] [] (s' := ⟨[(4, B true)], []⟩) (φ := True ∧ True) (by kernel_rfl) ⟨trivial, trivial⟩ ?_
                                refine VO.nil ?_
                                show VW _ _ _ _ _ _ _
                                refine VW.ret ?_
                                replace h := Option.some.inj h
                                subst h
                                exact retR [] (by kernel_rfl) rfl

end Go.Proofs.Ytckcbjaldmlomaa.Vc
