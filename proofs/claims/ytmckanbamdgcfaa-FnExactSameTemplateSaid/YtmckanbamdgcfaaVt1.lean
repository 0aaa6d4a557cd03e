/- What functions of the program compute, and that they do. -/
import Derived.Test.YtmckanbamdgcfaaVt0
namespace Go.Proofs.Ytmckanbamdgcfaa.Vc
open Go Go.RowKit
set_option linter.unusedVariables false
set_option maxRecDepth 100000
set_option maxHeartbeats 4000000
/- loop.example/g00844/impl.WordOk -/
def F64_j0 (N : Nat) (a0 : ByteArray) : Option (Bool) :=
  andO (F38 N (a0.size : Int) (1 : Int) (12 : Int)) fun y14 => some y14
def F64_j1 (N : Nat) (nx25 : Int → Int → Option (Bool)) (x20 : Int) (x21 : Int) : Option (Bool) :=
  nx25 x20 (IntKind.i64.wrap (x21 + (1 : Int)))
def F64_l0_b (N : Nat) (a0 : ByteArray) (nx25 : Int → Int → Option (Bool)) (x20 : Int) (x21 : Int) : Option (Bool) :=
  cond (decide (x21 < x20)) (gd (InR x21 a0.size) (cond (decide (((a0.data.getD x21.toNat 0).toNat : Int) ≥ (97 : Int))) (cond (!(decide (((a0.data.getD x21.toNat 0).toNat : Int) ≤ (122 : Int)))) (cond (x21 == (0 : Int)) (some false) (cond (decide (((a0.data.getD x21.toNat 0).toNat : Int) < (48 : Int))) (some false) (cond (decide (((a0.data.getD x21.toNat 0).toNat : Int) > (57 : Int))) (some false) (F64_j1 N nx25 x20 x21)))) (F64_j1 N nx25 x20 x21)) (cond (x21 == (0 : Int)) (some false) (cond (decide (((a0.data.getD x21.toNat 0).toNat : Int) < (48 : Int))) (some false) (cond (decide (((a0.data.getD x21.toNat 0).toNat : Int) > (57 : Int))) (some false) (F64_j1 N nx25 x20 x21)))))) (F64_j0 N a0)
def F64_l0 (N : Nat) (a0 : ByteArray) : Nat → Int → Int → Option (Bool) := loopF (F64_l0_b N a0) (fun _ _ => none)
theorem F64_l0_s (N : Nat) (a0 : ByteArray) {k : Nat} (hk : 0 < k) (x20 : Int) (x21 : Int) : F64_l0 N a0 k x20 x21 = F64_l0_b N a0 (F64_l0 N a0 (k - 1)) x20 x21 := by
  cases k with
  | zero => exact absurd hk (Nat.lt_irrefl 0)
  | succ m => rfl
def F64 (N : Nat) (a0 : ByteArray) : Option (Bool) :=
  F64_l0 N a0 N (a0.size : Int) (0 : Int)
theorem ok64 (N : Nat) (a0 : ByteArray) {r : Bool} (h : F64 N a0 = some r) : Con Go.Proofs.Try.prog 64 [S a0] [.lf (.v .bool r)] := by
  refine ⟨enters_of Go.Proofs.Try.func64 rfl (by decide), HC.intro [.lf (.v .bool)] T_ok Go.Proofs.Try.func64 rfl (Nat.le_of_ble_eq_true rfl) (Nat.le_of_ble_eq_true rfl) fun w0 E0 => ?_⟩
  unfold F64 at h
  show VW _ _ _ _ _ (retQ _ _ _ _) _
  refine VW.seq ?_
  refine VW.region ?_
  refine VO.seg T_ok .dp 1 [0] [] (s' := ⟨[(0, S a0)], []⟩) (φ := True ∧ True) (by kernel_rfl) ⟨trivial, trivial⟩ ?_
  refine VO.nil ?_
  show VW _ _ _ _ _ _ _
  refine VW.join (fun s => s = ⟨[(0, S a0)], []⟩ ∧ F64_j0 N a0 = some r) ?_ ?_
  · refine VW.seq ?_
    refine VW.region ?_
    refine VO.seg T_ok .dp 3 [0, 7, 8] [] (s' := ⟨[(0, S a0), (7, I (a0.size : Int)), (8, I (0 : Int))], []⟩) (φ := True ∧ True ∧ True ∧ True) (by kernel_rfl) ⟨trivial, trivial, trivial, trivial⟩ ?_
    refine VO.nil ?_
    show VW _ _ _ _ _ _ _
    refine VW.block ?_
    refine VW.loopL (fun k s => ∃ (x20 : Int) (x21 : Int), s = ⟨[(0, S a0), (7, I x20), (8, I x21)], []⟩ ∧ F64_l0 N a0 k x20 x21 = some r) N [.ren [0, 7, 8] []] (by kernel_rfl) ⟨(a0.size : Int), (0 : Int), rfl, h⟩ ?_
    rintro k25 s ⟨x20, x21, rfl, h⟩
    cases k25 with
    | zero => exact nomatch (show (none : Option (Bool)) = some r from h)
    | succ k25 =>
      replace h : F64_l0_b N a0 (F64_l0 N a0 k25) x20 x21 = some r := h
      unfold F64_l0_b at h
      refine VW.seq ?_
      refine VW.region ?_
      refine VO.seg T_ok .dp 1 [0, 7, 8, 9] [] (s' := ⟨[(0, S a0), (7, I x20), (8, I x21), (9, B (decide (x21 < x20)))], []⟩) (φ := True ∧ True) (by kernel_rfl) ⟨trivial, trivial⟩ ?_
      refine VO.nil ?_
      show VW _ _ _ _ _ _ _
      refine VW.seq ?_
      refine VW.cond (b := (decide (x21 < x20))) (by kernel_rfl) (fun hb => ?_) (fun hb => ?_)
      · replace h := cond_t h hb; clear hb
        refine VW.skip ?_
        show VW _ _ _ _ _ _ _
        refine VW.join (fun s => s = ⟨[(0, S a0), (7, I x20), (8, I x21)], []⟩ ∧ F64_j1 N (F64_l0 N a0 k25) x20 x21 = some r) ?_ ?_
        · refine VW.block ?_
          refine VW.seq ?_
          refine VW.region ?_
          refine VO.seg T_ok .dp 2 [0, 3, 7, 8] [] (s' := ⟨[(0, S a0), (3, I x21), (7, I x20), (8, I x21)], []⟩) (φ := True ∧ True ∧ True) (by kernel_rfl) ⟨trivial, trivial, trivial⟩ ?_
          refine VO.nil ?_
          show VW _ _ _ _ _ _ _
          refine VW.seq ?_
          refine VW.region ?_
          obtain ⟨g28, h⟩ := gd_some h
          refine VO.seg T_ok .dp 4 [0, 3, 4, 7, 8] [] (s' := ⟨[(0, S a0), (3, I x21), (4, U ((a0.data.getD x21.toNat 0).toNat : Int)), (7, I x20), (8, I x21)], []⟩) (φ := True ∧ True ∧ (InR x21 a0.size) ∧ True ∧ True) (by kernel_rfl) ⟨trivial, trivial, g28, trivial, trivial⟩ ?_
          refine VO.nil ?_
          show VW _ _ _ _ _ _ _
          refine VW.seq ?_
          refine VW.region ?_
          refine VO.seg T_ok .dp 3 [0, 3, 4, 7, 8, 16] [] (s' := ⟨[(0, S a0), (3, I x21), (4, U ((a0.data.getD x21.toNat 0).toNat : Int)), (7, I x20), (8, I x21), (16, B (decide (((a0.data.getD x21.toNat 0).toNat : Int) ≥ (97 : Int))))], []⟩) (φ := True ∧ True ∧ True ∧ True) (by kernel_rfl) ⟨trivial, trivial, trivial, trivial⟩ ?_
          refine VO.splitB 16 (b := (decide (((a0.data.getD x21.toNat 0).toNat : Int) ≥ (97 : Int)))) (by kernel_rfl) (fun hb => ?_) (fun hb => ?_)
          · replace h := cond_t h hb; clear hb
            refine VO.seg T_ok .dp 4 [0, 3, 4, 5, 7, 8] [] (s' := ⟨[(0, S a0), (3, I x21), (4, U ((a0.data.getD x21.toNat 0).toNat : Int)), (5, B (decide (((a0.data.getD x21.toNat 0).toNat : Int) ≤ (122 : Int)))), (7, I x20), (8, I x21)], []⟩) (φ := True ∧ True ∧ True ∧ True ∧ True) (by kernel_rfl) ⟨trivial, trivial, trivial, trivial, trivial⟩ ?_
            refine VO.nil ?_
            show VW _ _ _ _ _ _ _
            refine VW.seq ?_
            refine VW.region ?_
            refine VO.seg T_ok .dp 3 [0, 3, 4, 7, 8, 22] [] (s' := ⟨[(0, S a0), (3, I x21), (4, U ((a0.data.getD x21.toNat 0).toNat : Int)), (7, I x20), (8, I x21), (22, B (!(decide (((a0.data.getD x21.toNat 0).toNat : Int) ≤ (122 : Int)))))], []⟩) (φ := True ∧ True ∧ True ∧ True) (by kernel_rfl) ⟨trivial, trivial, trivial, trivial⟩ ?_
            refine VO.splitB 22 (b := (!(decide (((a0.data.getD x21.toNat 0).toNat : Int) ≤ (122 : Int))))) (by kernel_rfl) (fun hb => ?_) (fun hb => ?_)
            · replace h := cond_t h hb; clear hb
              refine VO.seg T_ok .dp 3 [0, 4, 7, 8, 22, 25] [] (s' := ⟨[(0, S a0), (4, U ((a0.data.getD x21.toNat 0).toNat : Int)), (7, I x20), (8, I x21), (22, B true), (25, B (x21 == (0 : Int)))], []⟩) (φ := True ∧ True ∧ True ∧ True) (by kernel_rfl) ⟨trivial, trivial, trivial, trivial⟩ ?_
              refine VO.splitB 25 (b := (x21 == (0 : Int))) (by kernel_rfl) (fun hb => ?_) (fun hb => ?_)
              · replace h := cond_t h hb; clear hb
                refine VO.seg T_ok .dp 8 [0, 7, 8, 33] [] (s' := ⟨[(0, S a0), (7, I x20), (8, I x21), (33, B true)], []⟩) (φ := True ∧ True ∧ True ∧ True ∧ True ∧ True ∧ True ∧ True ∧ True) (by kernel_rfl) ⟨trivial, trivial, trivial, trivial, trivial, trivial, trivial, trivial, trivial⟩ ?_
                refine VO.nil ?_
                show VW _ _ _ _ _ _ _
                refine VW.cond (b := true) (by kernel_rfl) (fun _ => ?_) (fun h' => nomatch h')
                refine VW.seq ?_
                refine VW.region ?_
                refine VO.seg T_ok .dp 1 [2] [] (s' := ⟨[(2, B false)], []⟩) (φ := True ∧ True) (by kernel_rfl) ⟨trivial, trivial⟩ ?_
                refine VO.nil ?_
                show VW _ _ _ _ _ _ _
                refine VW.ret ?_
                replace h := Option.some.inj h
                subst h
                exact retR [] (by kernel_rfl) rfl
              · replace h := cond_f h hb; clear hb
                refine VO.seg T_ok .dp 4 [0, 4, 7, 8, 22, 29] [] (s' := ⟨[(0, S a0), (4, U ((a0.data.getD x21.toNat 0).toNat : Int)), (7, I x20), (8, I x21), (22, B true), (29, B (decide (((a0.data.getD x21.toNat 0).toNat : Int) < (48 : Int))))], []⟩) (φ := True ∧ True ∧ True ∧ True ∧ True) (by kernel_rfl) ⟨trivial, trivial, trivial, trivial, trivial⟩ ?_
                refine VO.splitB 29 (b := (decide (((a0.data.getD x21.toNat 0).toNat : Int) < (48 : Int)))) (by kernel_rfl) (fun hb => ?_) (fun hb => ?_)
                · replace h := cond_t h hb; clear hb
                  refine VO.seg T_ok .dp 4 [0, 7, 8, 33] [] (s' := ⟨[(0, S a0), (7, I x20), (8, I x21), (33, B true)], []⟩) (φ := True ∧ True ∧ True ∧ True ∧ True) (by kernel_rfl) ⟨trivial, trivial, trivial, trivial, trivial⟩ ?_
                  refine VO.nil ?_
                  show VW _ _ _ _ _ _ _
                  refine VW.cond (b := true) (by kernel_rfl) (fun _ => ?_) (fun h' => nomatch h')
                  refine VW.seq ?_
                  refine VW.region ?_
                  refine VO.seg T_ok .dp 1 [2] [] (s' := ⟨[(2, B false)], []⟩) (φ := True ∧ True) (by kernel_rfl) ⟨trivial, trivial⟩ ?_
                  refine VO.nil ?_
                  show VW _ _ _ _ _ _ _
                  refine VW.ret ?_
                  replace h := Option.some.inj h
                  subst h
                  exact retR [] (by kernel_rfl) rfl
                · replace h := cond_f h hb; clear hb
                  refine VO.seg T_ok .dp 4 [0, 7, 8, 33] [] (s' := ⟨[(0, S a0), (7, I x20), (8, I x21), (33, B (decide (((a0.data.getD x21.toNat 0).toNat : Int) > (57 : Int))))], []⟩) (φ := True ∧ True ∧ True ∧ True ∧ True) (by kernel_rfl) ⟨trivial, trivial, trivial, trivial, trivial⟩ ?_
                  refine VO.nil ?_
                  show VW _ _ _ _ _ _ _
                  refine VW.cond (b := (decide (((a0.data.getD x21.toNat 0).toNat : Int) > (57 : Int)))) (by kernel_rfl) (fun hb => ?_) (fun hb => ?_)
                  · replace h := cond_t h hb; clear hb
                    refine VW.seq ?_
                    refine VW.region ?_
                    refine VO.seg T_ok .dp 1 [2] [] (s' := ⟨[(2, B false)], []⟩) (φ := True ∧ True) (by kernel_rfl) ⟨trivial, trivial⟩ ?_
                    refine VO.nil ?_
                    show VW _ _ _ _ _ _ _
                    refine VW.ret ?_
                    replace h := Option.some.inj h
                    subst h
                    exact retR [] (by kernel_rfl) rfl
                  · replace h := cond_f h hb; clear hb
                    refine VW.skip ?_
                    exact arrive [.ren [0, 7, 8] []] (by kernel_rfl) ⟨rfl, h⟩
            · replace h := cond_f h hb; clear hb
              refine VO.seg T_ok .dp 11 [0, 7, 8, 33] [] (s' := ⟨[(0, S a0), (7, I x20), (8, I x21), (33, B false)], []⟩) (φ := True ∧ True ∧ True ∧ True ∧ True ∧ True ∧ True ∧ True ∧ True ∧ True ∧ True ∧ True) (by kernel_rfl) ⟨trivial, trivial, trivial, trivial, trivial, trivial, trivial, trivial, trivial, trivial, trivial, trivial⟩ ?_
              refine VO.nil ?_
              show VW _ _ _ _ _ _ _
              refine VW.cond (b := false) (by kernel_rfl) (fun h' => nomatch h') (fun _ => ?_)
              refine VW.skip ?_
              exact arrive [.ren [0, 7, 8] []] (by kernel_rfl) ⟨rfl, h⟩
          · replace h := cond_f h hb; clear hb
            refine VO.seg T_ok .dp 4 [0, 3, 4, 5, 7, 8] [] (s' := ⟨[(0, S a0), (3, I x21), (4, U ((a0.data.getD x21.toNat 0).toNat : Int)), (5, B false), (7, I x20), (8, I x21)], []⟩) (φ := True ∧ True ∧ True ∧ True ∧ True) (by kernel_rfl) ⟨trivial, trivial, trivial, trivial, trivial⟩ ?_
            refine VO.nil ?_
            show VW _ _ _ _ _ _ _
            refine VW.seq ?_
            refine VW.region ?_
            refine VO.seg T_ok .dp 6 [0, 4, 7, 8, 22, 25] [] (s' := ⟨[(0, S a0), (4, U ((a0.data.getD x21.toNat 0).toNat : Int)), (7, I x20), (8, I x21), (22, B true), (25, B (x21 == (0 : Int)))], []⟩) (φ := True ∧ True ∧ True ∧ True ∧ True ∧ True ∧ True) (by kernel_rfl) ⟨trivial, trivial, trivial, trivial, trivial, trivial, trivial⟩ ?_
            refine VO.splitB 25 (b := (x21 == (0 : Int))) (by kernel_rfl) (fun hb => ?_) (fun hb => ?_)
            · replace h := cond_t h hb; clear hb
              refine VO.seg T_ok .dp 8 [0, 7, 8, 33] [] (s' := ⟨[(0, S a0), (7, I x20), (8, I x21), (33, B true)], []⟩) (φ := True ∧ True ∧ True ∧ True ∧ True ∧ True ∧ True ∧ True ∧ True) (by kernel_rfl) ⟨trivial, trivial, trivial, trivial, trivial, trivial, trivial, trivial, trivial⟩ ?_
              refine VO.nil ?_
              show VW _ _ _ _ _ _ _
              refine VW.cond (b := true) (by kernel_rfl) (fun _ => ?_) (fun h' => nomatch h')
              refine VW.seq ?_
              refine VW.region ?_
              refine VO.seg T_ok .dp 1 [2] [] (s' := ⟨[(2, B false)], []⟩) (φ := True ∧ True) (by kernel_rfl) ⟨trivial, trivial⟩ ?_
              refine VO.nil ?_
              show VW _ _ _ _ _ _ _
              refine VW.ret ?_
              replace h := Option.some.inj h
              subst h
              exact retR [] (by kernel_rfl) rfl
            · replace h := cond_f h hb; clear hb
              refine VO.seg T_ok .dp 4 [0, 4, 7, 8, 22, 29] [] (s' := ⟨[(0, S a0), (4, U ((a0.data.getD x21.toNat 0).toNat : Int)), (7, I x20), (8, I x21), (22, B true), (29, B (decide (((a0.data.getD x21.toNat 0).toNat : Int) < (48 : Int))))], []⟩) (φ := True ∧ True ∧ True ∧ True ∧ True) (by kernel_rfl) ⟨trivial, trivial, trivial, trivial, trivial⟩ ?_
              refine VO.splitB 29 (b := (decide (((a0.data.getD x21.toNat 0).toNat : Int) < (48 : Int)))) (by kernel_rfl) (fun hb => ?_) (fun hb => ?_)
              · replace h := cond_t h hb; clear hb
                refine VO.seg T_ok .dp 4 [0, 7, 8, 33] [] (s' := ⟨[(0, S a0), (7, I x20), (8, I x21), (33, B true)], []⟩) (φ := True ∧ True ∧ True ∧ True ∧ True) (by kernel_rfl) ⟨trivial, trivial, trivial, trivial, trivial⟩ ?_
                refine VO.nil ?_
                show VW _ _ _ _ _ _ _
                refine VW.cond (b := true) (by kernel_rfl) (fun _ => ?_) (fun h' => nomatch h')
                refine VW.seq ?_
                refine VW.region ?_
                refine VO.seg T_ok .dp 1 [2] [] (s' := ⟨[(2, B false)], []⟩) (φ := True ∧ True) (by kernel_rfl) ⟨trivial, trivial⟩ ?_
                refine VO.nil ?_
                show VW _ _ _ _ _ _ _
                refine VW.ret ?_
                replace h := Option.some.inj h
                subst h
                exact retR [] (by kernel_rfl) rfl
              · replace h := cond_f h hb; clear hb
                refine VO.seg T_ok .dp 4 [0, 7, 8, 33] [] (s' := ⟨[(0, S a0), (7, I x20), (8, I x21), (33, B (decide (((a0.data.getD x21.toNat 0).toNat : Int) > (57 : Int))))], []⟩) (φ := True ∧ True ∧ True ∧ True ∧ True) (by kernel_rfl) ⟨trivial, trivial, trivial, trivial, trivial⟩ ?_
                refine VO.nil ?_
                show VW _ _ _ _ _ _ _
                refine VW.cond (b := (decide (((a0.data.getD x21.toNat 0).toNat : Int) > (57 : Int)))) (by kernel_rfl) (fun hb => ?_) (fun hb => ?_)
                · replace h := cond_t h hb; clear hb
                  refine VW.seq ?_
                  refine VW.region ?_
                  refine VO.seg T_ok .dp 1 [2] [] (s' := ⟨[(2, B false)], []⟩) (φ := True ∧ True) (by kernel_rfl) ⟨trivial, trivial⟩ ?_
                  refine VO.nil ?_
                  show VW _ _ _ _ _ _ _
                  refine VW.ret ?_
                  replace h := Option.some.inj h
                  subst h
                  exact retR [] (by kernel_rfl) rfl
                · replace h := cond_f h hb; clear hb
                  refine VW.skip ?_
                  exact arrive [.ren [0, 7, 8] []] (by kernel_rfl) ⟨rfl, h⟩
        · rintro s ⟨rfl, h⟩
          unfold F64_j1 at h
          refine VW.region ?_
          refine VO.seg T_ok .dp 2 [0, 7, 8] [] (s' := ⟨[(0, S a0), (7, I x20), (8, I (IntKind.i64.wrap (x21 + (1 : Int))))], []⟩) (φ := True ∧ True ∧ True) (by kernel_rfl) ⟨trivial, trivial, trivial⟩ ?_
          refine VO.nil ?_
          exact around [.ren [0, 7, 8] []] (by kernel_rfl) ⟨x20, (IntKind.i64.wrap (x21 + (1 : Int))), rfl, h⟩
      · replace h := cond_f h hb; clear hb
        refine VW.exit ?_
        exact arrive [.ren [0] []] (by kernel_rfl) ⟨rfl, h⟩
  · rintro s ⟨rfl, h⟩
    unfold F64_j0 at h
    refine VW.seq ?_
    refine VW.region ?_
    refine VO.seg T_ok .dp 2 [36] [] (s' := ⟨[(36, I (a0.size : Int))], []⟩) (φ := True ∧ True ∧ True) (by kernel_rfl) ⟨trivial, trivial, trivial⟩ ?_
    obtain ⟨y14, hy, h⟩ := andO_some h
    refine VO.call false [.t (.int .i64), .t (.int .i64), .t (.int .i64)] [] T_ok (d := some 37) (by kernel_rfl) (ok38 N _ _ _ hy) rfl ?_
    refine VO.seg T_ok .dp 1 [2] [] (s' := ⟨[(2, B y14)], []⟩) (φ := True ∧ True) (by kernel_rfl) ⟨trivial, trivial⟩ ?_
    refine VO.nil ?_
    show VW _ _ _ _ _ _ _
    refine VW.ret ?_
    replace h := Option.some.inj h
    subst h
    exact retR [] (by kernel_rfl) rfl

/- loop.example/g00844/impl.isCol -/
def F65 (N : Nat) (a0 : Int) : Option (Bool) :=
  andO (F38 N a0 (0 : Int) (63 : Int)) fun y1 => some y1
theorem ok65 (N : Nat) (a0 : Int) {r : Bool} (h : F65 N a0 = some r) : Con Go.Proofs.Try.prog 65 [I a0] [.lf (.v .bool r)] := by
  refine ⟨enters_of Go.Proofs.Try.func65 rfl (by decide), HC.intro [.lf (.v .bool)] T_ok Go.Proofs.Try.func65 rfl (Nat.le_of_ble_eq_true rfl) (Nat.le_of_ble_eq_true rfl) fun w0 E0 => ?_⟩
  unfold F65 at h
  show VW _ _ _ _ _ (retQ _ _ _ _) _
  refine VW.seq ?_
  refine VW.region ?_
  refine VO.seg T_ok .dp 1 [0] [] (s' := ⟨[(0, I a0)], []⟩) (φ := True ∧ True) (by kernel_rfl) ⟨trivial, trivial⟩ ?_
  refine VO.nil ?_
  show VW _ _ _ _ _ _ _
  refine VW.seq ?_
  refine VW.region ?_
  refine VO.seg T_ok .dp 1 [3] [] (s' := ⟨[(3, I a0)], []⟩) (φ := True ∧ True) (by kernel_rfl) ⟨trivial, trivial⟩ ?_
  obtain ⟨y1, hy, h⟩ := andO_some h
  refine VO.call false [.t (.int .i64), .t (.int .i64), .t (.int .i64)] [] T_ok (d := some 4) (by kernel_rfl) (ok38 N _ _ _ hy) rfl ?_
  refine VO.seg T_ok .dp 1 [2] [] (s' := ⟨[(2, B y1)], []⟩) (φ := True ∧ True) (by kernel_rfl) ⟨trivial, trivial⟩ ?_
  refine VO.nil ?_
  show VW _ _ _ _ _ _ _
  refine VW.ret ?_
  replace h := Option.some.inj h
  subst h
  exact retR [] (by kernel_rfl) rfl

/- loop.example/g00844/impl.isSlot -/
def F66 (N : Nat) (a0 : Int) : Option (Bool) :=
  andO (F38 N a0 (0 : Int) (39 : Int)) fun y1 => some y1
theorem ok66 (N : Nat) (a0 : Int) {r : Bool} (h : F66 N a0 = some r) : Con Go.Proofs.Try.prog 66 [I a0] [.lf (.v .bool r)] := by
  refine ⟨enters_of Go.Proofs.Try.func66 rfl (by decide), HC.intro [.lf (.v .bool)] T_ok Go.Proofs.Try.func66 rfl (Nat.le_of_ble_eq_true rfl) (Nat.le_of_ble_eq_true rfl) fun w0 E0 => ?_⟩
  unfold F66 at h
  show VW _ _ _ _ _ (retQ _ _ _ _) _
  refine VW.seq ?_
  refine VW.region ?_
  refine VO.seg T_ok .dp 1 [0] [] (s' := ⟨[(0, I a0)], []⟩) (φ := True ∧ True) (by kernel_rfl) ⟨trivial, trivial⟩ ?_
  refine VO.nil ?_
  show VW _ _ _ _ _ _ _
  refine VW.seq ?_
  refine VW.region ?_
  refine VO.seg T_ok .dp 1 [3] [] (s' := ⟨[(3, I a0)], []⟩) (φ := True ∧ True) (by kernel_rfl) ⟨trivial, trivial⟩ ?_
  obtain ⟨y1, hy, h⟩ := andO_some h
  refine VO.call false [.t (.int .i64), .t (.int .i64), .t (.int .i64)] [] T_ok (d := some 4) (by kernel_rfl) (ok38 N _ _ _ hy) rfl ?_
  refine VO.seg T_ok .dp 1 [2] [] (s' := ⟨[(2, B y1)], []⟩) (φ := True ∧ True) (by kernel_rfl) ⟨trivial, trivial⟩ ?_
  refine VO.nil ?_
  show VW _ _ _ _ _ _ _
  refine VW.ret ?_
  replace h := Option.some.inj h
  subst h
  exact retR [] (by kernel_rfl) rfl

/- loop.example/g00844/impl.isNum -/
def F67 (N : Nat) (a0 : Int) : Option (Bool) :=
  andO (F38 N a0 (-1000000 : Int) (1000000 : Int)) fun y1 => some y1
theorem ok67 (N : Nat) (a0 : Int) {r : Bool} (h : F67 N a0 = some r) : Con Go.Proofs.Try.prog 67 [I a0] [.lf (.v .bool r)] := by
  refine ⟨enters_of Go.Proofs.Try.func67 rfl (by decide), HC.intro [.lf (.v .bool)] T_ok Go.Proofs.Try.func67 rfl (Nat.le_of_ble_eq_true rfl) (Nat.le_of_ble_eq_true rfl) fun w0 E0 => ?_⟩
  unfold F67 at h
  show VW _ _ _ _ _ (retQ _ _ _ _) _
  refine VW.seq ?_
  refine VW.region ?_
  refine VO.seg T_ok .dp 1 [0] [] (s' := ⟨[(0, I a0)], []⟩) (φ := True ∧ True) (by kernel_rfl) ⟨trivial, trivial⟩ ?_
  refine VO.nil ?_
  show VW _ _ _ _ _ _ _
  refine VW.seq ?_
  refine VW.region ?_
  refine VO.seg T_ok .dp 1 [3] [] (s' := ⟨[(3, I a0)], []⟩) (φ := True ∧ True) (by kernel_rfl) ⟨trivial, trivial⟩ ?_
  obtain ⟨y1, hy, h⟩ := andO_some h
  refine VO.call false [.t (.int .i64), .t (.int .i64), .t (.int .i64)] [] T_ok (d := some 4) (by kernel_rfl) (ok38 N _ _ _ hy) rfl ?_
  refine VO.seg T_ok .dp 1 [2] [] (s' := ⟨[(2, B y1)], []⟩) (φ := True ∧ True) (by kernel_rfl) ⟨trivial, trivial⟩ ?_
  refine VO.nil ?_
  show VW _ _ _ _ _ _ _
  refine VW.ret ?_
  replace h := Option.some.inj h
  subst h
  exact retR [] (by kernel_rfl) rfl

/- slices.IndexFunc[[]int,int] -/
def F87_j0 (N : Nat) : Option (Int) :=
  some (-1 : Int)
def F87_l0_b (N : Nat) (a0 : (List Int)) (p1 : Int → Option (Bool)) (nx29 : Int → Int → Option (Int)) (x23 : Int) (x24 : Int) : Option (Int) :=
  cond (decide (x24 < x23)) (gd (InR x24 a0.length) (andO (p1 (a0.getD x24.toNat (Ty.dflt (.int .i64)))) fun y33 => cond y33 (some x24) (nx29 x23 (IntKind.i64.wrap (x24 + (1 : Int)))))) (F87_j0 N)
def F87_l0 (N : Nat) (a0 : (List Int)) (p1 : Int → Option (Bool)) : Nat → Int → Int → Option (Int) := loopF (F87_l0_b N a0 p1) (fun _ _ => none)
theorem F87_l0_s (N : Nat) (a0 : (List Int)) (p1 : Int → Option (Bool)) {k : Nat} (hk : 0 < k) (x23 : Int) (x24 : Int) : F87_l0 N a0 p1 k x23 x24 = F87_l0_b N a0 p1 (F87_l0 N a0 p1 (k - 1)) x23 x24 := by
  cases k with
  | zero => exact absurd hk (Nat.lt_irrefl 0)
  | succ m => rfl
def F87 (N : Nat) (a0 : (List Int)) (p1 : Int → Option (Bool)) : Option (Int) :=
  F87_l0 N a0 p1 N (a0.length : Int) (0 : Int)
theorem ok87 (N : Nat) (a0 : (List Int)) (g1 : FuncId) (p1 : Int → Option (Bool)) (hp1 : ∀ (z0 : Int) (r : Bool), p1 z0 = some r → Con Go.Proofs.Try.prog g1 [I z0] [.lf (.v .bool r)]) {r : Int} (h : F87 N a0 p1 = some r) : Con Go.Proofs.Try.prog 87 [.lf (.v (.sl (.int .i64)) a0), .clo g1 []] [.lf (.v (.int .i64) r)] := by
  refine ⟨enters_of Go.Proofs.Try.func87 rfl (by decide), HC.intro [.lf (.v (.int .i64))] T_ok Go.Proofs.Try.func87 rfl (Nat.le_of_ble_eq_true rfl) (Nat.le_of_ble_eq_true rfl) fun w0 E0 => ?_⟩
  unfold F87 at h
  show VW _ _ _ _ _ (retQ _ _ _ _) _
  refine VW.seq ?_
  refine VW.region ?_
  refine VO.seg T_ok .dp 1 [0, 1] [] (s' := ⟨[(0, .lf (.v (.sl (.int .i64)) a0)), (1, .clo g1 [])], []⟩) (φ := True ∧ True) (by kernel_rfl) ⟨trivial, trivial⟩ ?_
  refine VO.nil ?_
  show VW _ _ _ _ _ _ _
  refine VW.join (fun s => s = ⟨[], []⟩ ∧ F87_j0 N = some r) ?_ ?_
  · refine VW.seq ?_
    refine VW.region ?_
    refine VO.seg T_ok .dp 3 [0, 1, 7, 8] [] (s' := ⟨[(0, .lf (.v (.sl (.int .i64)) a0)), (1, .clo g1 []), (7, I (a0.length : Int)), (8, I (0 : Int))], []⟩) (φ := True ∧ True ∧ True ∧ True) (by kernel_rfl) ⟨trivial, trivial, trivial, trivial⟩ ?_
    refine VO.nil ?_
    show VW _ _ _ _ _ _ _
    refine VW.block ?_
    refine VW.loopL (fun k s => ∃ (x23 : Int) (x24 : Int), s = ⟨[(0, .lf (.v (.sl (.int .i64)) a0)), (1, .clo g1 []), (7, I x23), (8, I x24)], []⟩ ∧ F87_l0 N a0 p1 k x23 x24 = some r) N [.ren [0, 1, 7, 8] []] (by kernel_rfl) ⟨(a0.length : Int), (0 : Int), rfl, h⟩ ?_
    rintro k29 s ⟨x23, x24, rfl, h⟩
    cases k29 with
    | zero => exact nomatch (show (none : Option (Int)) = some r from h)
    | succ k29 =>
      replace h : F87_l0_b N a0 p1 (F87_l0 N a0 p1 k29) x23 x24 = some r := h
      unfold F87_l0_b at h
      refine VW.seq ?_
      refine VW.region ?_
      refine VO.seg T_ok .dp 1 [0, 1, 7, 8, 9] [] (s' := ⟨[(0, .lf (.v (.sl (.int .i64)) a0)), (1, .clo g1 []), (7, I x23), (8, I x24), (9, B (decide (x24 < x23)))], []⟩) (φ := True ∧ True) (by kernel_rfl) ⟨trivial, trivial⟩ ?_
      refine VO.nil ?_
      show VW _ _ _ _ _ _ _
      refine VW.seq ?_
      refine VW.cond (b := (decide (x24 < x23))) (by kernel_rfl) (fun hb => ?_) (fun hb => ?_)
      · replace h := cond_t h hb; clear hb
        refine VW.skip ?_
        show VW _ _ _ _ _ _ _
        refine VW.seq ?_
        refine VW.block ?_
        refine VW.seq ?_
        refine VW.region ?_
        refine VO.seg T_ok .dp 2 [0, 1, 5, 7, 8] [] (s' := ⟨[(0, .lf (.v (.sl (.int .i64)) a0)), (1, .clo g1 []), (5, I x24), (7, I x23), (8, I x24)], []⟩) (φ := True ∧ True ∧ True) (by kernel_rfl) ⟨trivial, trivial, trivial⟩ ?_
        refine VO.nil ?_
        show VW _ _ _ _ _ _ _
        refine VW.seq ?_
        refine VW.region ?_
        obtain ⟨g32, h⟩ := gd_some h
        refine VO.seg T_ok .dp 5 [0, 1, 5, 7, 8, 11, 15] [] (s' := ⟨[(0, .lf (.v (.sl (.int .i64)) a0)), (1, .clo g1 []), (5, I x24), (7, I x23), (8, I x24), (11, .clo g1 []), (15, I (a0.getD x24.toNat (Ty.dflt (.int .i64))))], []⟩) (φ := True ∧ True ∧ True ∧ (InR x24 a0.length) ∧ True ∧ True) (by kernel_rfl) ⟨trivial, trivial, trivial, g32, trivial, trivial⟩ ?_
        obtain ⟨y33, hy, h⟩ := andO_some h
        refine VO.call false [.t (.int .i64)] [] T_ok (d := some 16) (by kernel_rfl) (hp1 _ _ hy) rfl ?_
        refine VO.seg T_ok .dp 0 [0, 1, 5, 7, 8, 16] [] (s' := ⟨[(0, .lf (.v (.sl (.int .i64)) a0)), (1, .clo g1 []), (5, I x24), (7, I x23), (8, I x24), (16, B y33)], []⟩) (φ := True) (by kernel_rfl) trivial ?_
        refine VO.nil ?_
        show VW _ _ _ _ _ _ _
        refine VW.cond (b := y33) (by kernel_rfl) (fun hb => ?_) (fun hb => ?_)
        · replace h := cond_t h hb; clear hb
          refine VW.seq ?_
          refine VW.region ?_
          refine VO.seg T_ok .dp 2 [4] [] (s' := ⟨[(4, I x24)], []⟩) (φ := True ∧ True ∧ True) (by kernel_rfl) ⟨trivial, trivial, trivial⟩ ?_
          refine VO.nil ?_
          show VW _ _ _ _ _ _ _
          refine VW.ret ?_
          replace h := Option.some.inj h
          subst h
          exact retR [] (by kernel_rfl) rfl
        · replace h := cond_f h hb; clear hb
          refine VW.skip ?_
          show VW _ _ _ _ _ _ _
          refine VW.region ?_
          refine VO.seg T_ok .dp 2 [0, 1, 7, 8] [] (s' := ⟨[(0, .lf (.v (.sl (.int .i64)) a0)), (1, .clo g1 []), (7, I x23), (8, I (IntKind.i64.wrap (x24 + (1 : Int))))], []⟩) (φ := True ∧ True ∧ True) (by kernel_rfl) ⟨trivial, trivial, trivial⟩ ?_
          refine VO.nil ?_
          exact around [.ren [0, 1, 7, 8] []] (by kernel_rfl) ⟨x23, (IntKind.i64.wrap (x24 + (1 : Int))), rfl, h⟩
      · replace h := cond_f h hb; clear hb
        refine VW.exit ?_
        exact arrive [.ren [] []] (by kernel_rfl) ⟨rfl, h⟩
  · rintro s ⟨rfl, h⟩
    unfold F87_j0 at h
    refine VW.seq ?_
    refine VW.region ?_
    refine VO.seg T_ok .dp 1 [4] [] (s' := ⟨[(4, I (-1 : Int))], []⟩) (φ := True ∧ True) (by kernel_rfl) ⟨trivial, trivial⟩ ?_
    refine VO.nil ?_
    show VW _ _ _ _ _ _ _
    refine VW.ret ?_
    replace h := Option.some.inj h
    subst h
    exact retR [] (by kernel_rfl) rfl

/- slices.ContainsFunc[[]int,int] -/
def F68 (N : Nat) (a0 : (List Int)) (p1 : Int → Option (Bool)) : Option (Bool) :=
  andO (F87 N a0 p1) fun y1 => some (decide (y1 ≥ (0 : Int)))
theorem ok68 (N : Nat) (a0 : (List Int)) (g1 : FuncId) (p1 : Int → Option (Bool)) (hp1 : ∀ (z0 : Int) (r : Bool), p1 z0 = some r → Con Go.Proofs.Try.prog g1 [I z0] [.lf (.v .bool r)]) {r : Bool} (h : F68 N a0 p1 = some r) : Con Go.Proofs.Try.prog 68 [.lf (.v (.sl (.int .i64)) a0), .clo g1 []] [.lf (.v .bool r)] := by
  refine ⟨enters_of Go.Proofs.Try.func68 rfl (by decide), HC.intro [.lf (.v .bool)] T_ok Go.Proofs.Try.func68 rfl (Nat.le_of_ble_eq_true rfl) (Nat.le_of_ble_eq_true rfl) fun w0 E0 => ?_⟩
  unfold F68 at h
  show VW _ _ _ _ _ (retQ _ _ _ _) _
  refine VW.seq ?_
  refine VW.region ?_
  refine VO.seg T_ok .dp 1 [0, 1] [] (s' := ⟨[(0, .lf (.v (.sl (.int .i64)) a0)), (1, .clo g1 [])], []⟩) (φ := True ∧ True) (by kernel_rfl) ⟨trivial, trivial⟩ ?_
  refine VO.nil ?_
  show VW _ _ _ _ _ _ _
  refine VW.seq ?_
  refine VW.region ?_
  refine VO.seg T_ok .dp 2 [5, 6] [] (s' := ⟨[(5, .lf (.v (.sl (.int .i64)) a0)), (6, .clo g1 [])], []⟩) (φ := True ∧ True ∧ True) (by kernel_rfl) ⟨trivial, trivial, trivial⟩ ?_
  obtain ⟨y1, hy, h⟩ := andO_some h
  refine VO.call false [.t (.sl (.int .i64)), .clo []] [] T_ok (d := some 7) (by kernel_rfl) (ok87 N _ g1  p1 hp1 hy) rfl ?_
  refine VO.seg T_ok .dp 2 [4] [] (s' := ⟨[(4, B (decide (y1 ≥ (0 : Int))))], []⟩) (φ := True ∧ True ∧ True) (by kernel_rfl) ⟨trivial, trivial, trivial⟩ ?_
  refine VO.nil ?_
  show VW _ _ _ _ _ _ _
  refine VW.ret ?_
  replace h := Option.some.inj h
  subst h
  exact retR [] (by kernel_rfl) rfl

/- loop.example/g00844/impl.NodeOk$1 -/
def F69 (N : Nat) (a0 : Int) : Option (Bool) :=
  andO (F65 N a0) fun y1 => some (!y1)
theorem ok69 (N : Nat) (a0 : Int) {r : Bool} (h : F69 N a0 = some r) : Con Go.Proofs.Try.prog 69 [I a0] [.lf (.v .bool r)] := by
  refine ⟨enters_of Go.Proofs.Try.func69 rfl (by decide), HC.intro [.lf (.v .bool)] T_ok Go.Proofs.Try.func69 rfl (Nat.le_of_ble_eq_true rfl) (Nat.le_of_ble_eq_true rfl) fun w0 E0 => ?_⟩
  unfold F69 at h
  show VW _ _ _ _ _ (retQ _ _ _ _) _
  refine VW.seq ?_
  refine VW.region ?_
  refine VO.seg T_ok .dp 1 [0] [] (s' := ⟨[(0, I a0)], []⟩) (φ := True ∧ True) (by kernel_rfl) ⟨trivial, trivial⟩ ?_
  refine VO.nil ?_
  show VW _ _ _ _ _ _ _
  refine VW.seq ?_
  refine VW.region ?_
  refine VO.seg T_ok .dp 1 [3] [] (s' := ⟨[(3, I a0)], []⟩) (φ := True ∧ True) (by kernel_rfl) ⟨trivial, trivial⟩ ?_
  obtain ⟨y1, hy, h⟩ := andO_some h
  refine VO.call false [.t (.int .i64)] [] T_ok (d := some 4) (by kernel_rfl) (ok65 N _ hy) rfl ?_
  refine VO.seg T_ok .dp 2 [2] [] (s' := ⟨[(2, B (!y1))], []⟩) (φ := True ∧ True ∧ True) (by kernel_rfl) ⟨trivial, trivial, trivial⟩ ?_
  refine VO.nil ?_
  show VW _ _ _ _ _ _ _
  refine VW.ret ?_
  replace h := Option.some.inj h
  subst h
  exact retR [] (by kernel_rfl) rfl

/- loop.example/g00844/impl.NodeOk -/
def F40_j0 (N : Nat) (x38 : ByteArray) (x39 : Int) (x40 : Int) (x41 : Int) (x42 : Bool) (x43 : (List Int)) (x44 : Bool) : Option (Bool) :=
  cond x44 (andO (F59 N ((0 : Int), (x38, (x39, (x40, (x41, (x42, x43)))))) ((0 : Int), (ByteArray.empty, ((0 : Int), ((0 : Int), ((0 : Int), (false, []))))))) fun y45 => some y45) (some false)
def F40_j1 (N : Nat) (x52 : ByteArray) (x53 : Int) (x54 : Int) (x55 : Int) (x56 : Bool) (x57 : (List Int)) (x58 : Bool) : Option (Bool) :=
  F40_j0 N x52 (0 : Int) (0 : Int) (0 : Int) false x57 x58
def F40_j2 (N : Nat) (x62 : ByteArray) (x63 : Int) (x64 : Int) (x65 : Int) (x66 : Bool) (x67 : (List Int)) : Option (Bool) :=
  F40_j0 N x62 (0 : Int) (0 : Int) (0 : Int) false x67 false
def F40_j3 (N : Nat) (x76 : ByteArray) (x77 : Int) (x78 : Int) (x79 : Int) (x80 : Bool) (x81 : (List Int)) (x82 : Bool) : Option (Bool) :=
  cond x82 (F40_j0 N x76 x77 x78 x79 x80 x81 true) (F40_j0 N x76 x77 x78 x79 x80 x81 false)
def F40 (N : Nat) (a0 : (Int × (ByteArray × (Int × (Int × (Int × (Bool × (List Int)))))))) : Option (Bool) :=
  cond (a0.1 == (0 : Int)) (andO (F64 N a0.2.1) fun y47 => F40_j0 N ByteArray.empty a0.2.2.1 a0.2.2.2.1 a0.2.2.2.2.1 a0.2.2.2.2.2.1 a0.2.2.2.2.2.2 y47) (cond (a0.1 == (1 : Int)) (andO (F65 N a0.2.2.1) fun y48 => cond y48 (andO (F38 N a0.2.2.2.1 (0 : Int) (3 : Int)) fun y49 => cond (a0.2.2.2.1 == (3 : Int)) (cond y49 (cond (a0.2.2.2.2.1 == (0 : Int)) (F40_j1 N a0.2.1 a0.2.2.1 a0.2.2.2.1 a0.2.2.2.2.1 a0.2.2.2.2.2.1 a0.2.2.2.2.2.2 (!a0.2.2.2.2.2.1)) (F40_j1 N a0.2.1 a0.2.2.1 a0.2.2.2.1 a0.2.2.2.2.1 a0.2.2.2.2.2.1 a0.2.2.2.2.2.2 false)) (F40_j1 N a0.2.1 a0.2.2.1 a0.2.2.2.1 a0.2.2.2.2.1 a0.2.2.2.2.2.1 a0.2.2.2.2.2.2 false)) (cond a0.2.2.2.2.2.1 (cond y49 (andO (F66 N a0.2.2.2.2.1) fun y60 => F40_j1 N a0.2.1 a0.2.2.1 a0.2.2.2.1 a0.2.2.2.2.1 a0.2.2.2.2.2.1 a0.2.2.2.2.2.2 y60) (F40_j1 N a0.2.1 a0.2.2.1 a0.2.2.2.1 a0.2.2.2.2.1 a0.2.2.2.2.2.1 a0.2.2.2.2.2.2 false)) (cond y49 (andO (F67 N a0.2.2.2.2.1) fun y61 => F40_j1 N a0.2.1 a0.2.2.1 a0.2.2.2.1 a0.2.2.2.2.1 a0.2.2.2.2.2.1 a0.2.2.2.2.2.2 y61) (F40_j1 N a0.2.1 a0.2.2.1 a0.2.2.2.1 a0.2.2.2.2.1 a0.2.2.2.2.2.1 a0.2.2.2.2.2.2 false)))) (cond (a0.2.2.2.1 == (3 : Int)) (F40_j2 N a0.2.1 a0.2.2.1 a0.2.2.2.1 a0.2.2.2.2.1 a0.2.2.2.2.2.1 a0.2.2.2.2.2.2) (cond a0.2.2.2.2.2.1 (F40_j2 N a0.2.1 a0.2.2.1 a0.2.2.2.1 a0.2.2.2.2.1 a0.2.2.2.2.2.1 a0.2.2.2.2.2.2) (F40_j2 N a0.2.1 a0.2.2.1 a0.2.2.2.1 a0.2.2.2.2.1 a0.2.2.2.2.2.1 a0.2.2.2.2.2.2)))) (cond (a0.1 == (2 : Int)) (andO (F38 N (a0.2.2.2.2.2.2.length : Int) (1 : Int) (6 : Int)) fun y69 => cond y69 (andO (F68 N a0.2.2.2.2.2.2 (fun z0 => F69 N z0)) fun y70 => F40_j0 N a0.2.1 a0.2.2.1 a0.2.2.2.1 a0.2.2.2.2.1 a0.2.2.2.2.2.1 ([]) (!y70)) (F40_j0 N a0.2.1 a0.2.2.1 a0.2.2.2.1 a0.2.2.2.2.1 a0.2.2.2.2.2.1 ([]) false)) (cond (a0.1 == (3 : Int)) (andO (F65 N a0.2.2.1) fun y71 => cond y71 (andO (F65 N a0.2.2.2.2.1) fun y72 => F40_j0 N a0.2.1 (0 : Int) a0.2.2.2.1 (0 : Int) a0.2.2.2.2.2.1 a0.2.2.2.2.2.2 y72) (F40_j0 N a0.2.1 (0 : Int) a0.2.2.2.1 (0 : Int) a0.2.2.2.2.2.1 a0.2.2.2.2.2.2 false)) (cond (a0.1 == (5 : Int)) (andO (F65 N a0.2.2.1) fun y73 => F40_j0 N a0.2.1 (0 : Int) a0.2.2.2.1 a0.2.2.2.2.1 a0.2.2.2.2.2.1 a0.2.2.2.2.2.2 y73) (cond (a0.1 == (6 : Int)) (andO (F38 N a0.2.2.2.2.1 (0 : Int) (1000000 : Int)) fun y74 => cond y74 (cond (!a0.2.2.2.2.2.1) (F40_j0 N a0.2.1 a0.2.2.1 a0.2.2.2.1 (0 : Int) false a0.2.2.2.2.2.2 true) (andO (F66 N a0.2.2.2.2.1) fun y75 => F40_j0 N a0.2.1 a0.2.2.1 a0.2.2.2.1 (0 : Int) false a0.2.2.2.2.2.2 y75)) (F40_j0 N a0.2.1 a0.2.2.1 a0.2.2.2.1 (0 : Int) false a0.2.2.2.2.2.2 false)) (cond (a0.1 == (4 : Int)) (F40_j3 N a0.2.1 a0.2.2.1 a0.2.2.2.1 a0.2.2.2.2.1 a0.2.2.2.2.2.1 a0.2.2.2.2.2.2 (a0.1 == (4 : Int))) (F40_j3 N a0.2.1 a0.2.2.1 a0.2.2.2.1 a0.2.2.2.2.1 a0.2.2.2.2.2.1 a0.2.2.2.2.2.2 (a0.1 == (7 : Int)))))))))
theorem ok40 (N : Nat) (a0 : (Int × (ByteArray × (Int × (Int × (Int × (Bool × (List Int)))))))) {r : Bool} (h : F40 N a0 = some r) : Con Go.Proofs.Try.prog 40 [.agg [.v (.int .i64) a0.1, .v .str a0.2.1, .v (.int .i64) a0.2.2.1, .v (.int .i64) a0.2.2.2.1, .v (.int .i64) a0.2.2.2.2.1, .v .bool a0.2.2.2.2.2.1, .v (.sl (.int .i64)) a0.2.2.2.2.2.2]] [.lf (.v .bool r)] := by
  refine ⟨enters_of Go.Proofs.Try.func40 rfl (by decide), HC.intro [.lf (.v .bool)] T_ok Go.Proofs.Try.func40 rfl (Nat.le_of_ble_eq_true rfl) (Nat.le_of_ble_eq_true rfl) fun w0 E0 => ?_⟩
  unfold F40 at h
  show VW _ _ _ _ _ (retQ _ _ _ _) _
  refine VW.seq ?_
  refine VW.region ?_
  refine VO.seg T_ok .dp 2 [1] [0] (s' := ⟨[(1, .lf (.ptr 0 0 0 0))], [bx [.v (.int .i64) a0.1, .v .str a0.2.1, .v (.int .i64) a0.2.2.1, .v (.int .i64) a0.2.2.2.1, .v (.int .i64) a0.2.2.2.2.1, .v .bool a0.2.2.2.2.2.1, .v (.sl (.int .i64)) a0.2.2.2.2.2.2] 37]⟩) (φ := True ∧ True ∧ True) (by kernel_rfl) ⟨trivial, trivial, trivial⟩ ?_
  refine VO.nil ?_
  show VW _ _ _ _ _ _ _
  refine VW.seq ?_
  refine VW.region ?_
  refine VO.seg T_ok .dp 3 [1, 3] [0, 1] (s' := ⟨[(1, .lf (.ptr 0 0 0 0)), (3, .lf (.ptr 1 0 0 0))], [bx [.v (.int .i64) a0.1, .v .str a0.2.1, .v (.int .i64) a0.2.2.1, .v (.int .i64) a0.2.2.2.1, .v (.int .i64) a0.2.2.2.2.1, .v .bool a0.2.2.2.2.2.1, .v (.sl (.int .i64)) a0.2.2.2.2.2.2] 37, bx [.v (.int .i64) a0.1, .v .str a0.2.1, .v (.int .i64) a0.2.2.1, .v (.int .i64) a0.2.2.2.1, .v (.int .i64) a0.2.2.2.2.1, .v .bool a0.2.2.2.2.2.1, .v (.sl (.int .i64)) a0.2.2.2.2.2.2] 37]⟩) (φ := True ∧ True ∧ True ∧ True) (by kernel_rfl) ⟨trivial, trivial, trivial, trivial⟩ ?_
  refine VO.nil ?_
  show VW _ _ _ _ _ _ _
  refine VW.seq ?_
  refine VW.region ?_
  refine VO.seg T_ok .dp 2 [1, 3] [0, 1] (s' := ⟨[(1, .lf (.ptr 0 0 0 0)), (3, .lf (.ptr 1 0 0 0))], [bx [.v (.int .i64) a0.1, .v .str a0.2.1, .v (.int .i64) a0.2.2.1, .v (.int .i64) a0.2.2.2.1, .v (.int .i64) a0.2.2.2.2.1, .v .bool a0.2.2.2.2.2.1, .v (.sl (.int .i64)) a0.2.2.2.2.2.2] 37, bx [.v (.int .i64) (0 : Int), .v .str a0.2.1, .v (.int .i64) a0.2.2.1, .v (.int .i64) a0.2.2.2.1, .v (.int .i64) a0.2.2.2.2.1, .v .bool a0.2.2.2.2.2.1, .v (.sl (.int .i64)) a0.2.2.2.2.2.2] 37]⟩) (φ := True ∧ True ∧ True) (by kernel_rfl) ⟨trivial, trivial, trivial⟩ ?_
  refine VO.nil ?_
  show VW _ _ _ _ _ _ _
  refine VW.seq ?_
  refine VW.region ?_
  refine VO.seg T_ok .dp 1 [1, 3, 4] [0, 1] (s' := ⟨[(1, .lf (.ptr 0 0 0 0)), (3, .lf (.ptr 1 0 0 0)), (4, B false)], [bx [.v (.int .i64) a0.1, .v .str a0.2.1, .v (.int .i64) a0.2.2.1, .v (.int .i64) a0.2.2.2.1, .v (.int .i64) a0.2.2.2.2.1, .v .bool a0.2.2.2.2.2.1, .v (.sl (.int .i64)) a0.2.2.2.2.2.2] 37, bx [.v (.int .i64) (0 : Int), .v .str a0.2.1, .v (.int .i64) a0.2.2.1, .v (.int .i64) a0.2.2.2.1, .v (.int .i64) a0.2.2.2.2.1, .v .bool a0.2.2.2.2.2.1, .v (.sl (.int .i64)) a0.2.2.2.2.2.2] 37]⟩) (φ := True ∧ True) (by kernel_rfl) ⟨trivial, trivial⟩ ?_
  refine VO.nil ?_
  show VW _ _ _ _ _ _ _
  refine VW.join (fun s => ∃ (x38 : ByteArray) (x39 : Int) (x40 : Int) (x41 : Int) (x42 : Bool) (x43 : (List Int)) (x44 : Bool), s = ⟨[(3, .lf (.ptr 0 0 0 0)), (4, B x44)], [bx [.v (.int .i64) (0 : Int), .v .str x38, .v (.int .i64) x39, .v (.int .i64) x40, .v (.int .i64) x41, .v .bool x42, .v (.sl (.int .i64)) x43] 37]⟩ ∧ F40_j0 N x38 x39 x40 x41 x42 x43 x44 = some r) ?_ ?_
  · refine VW.seq ?_
    refine VW.region ?_
    refine VO.seg T_ok .dp 2 [1, 3, 4, 8] [0, 1] (s' := ⟨[(1, .lf (.ptr 0 0 0 0)), (3, .lf (.ptr 1 0 0 0)), (4, B false), (8, I a0.1)], [bx [.v (.int .i64) a0.1, .v .str a0.2.1, .v (.int .i64) a0.2.2.1, .v (.int .i64) a0.2.2.2.1, .v (.int .i64) a0.2.2.2.2.1, .v .bool a0.2.2.2.2.2.1, .v (.sl (.int .i64)) a0.2.2.2.2.2.2] 37, bx [.v (.int .i64) (0 : Int), .v .str a0.2.1, .v (.int .i64) a0.2.2.1, .v (.int .i64) a0.2.2.2.1, .v (.int .i64) a0.2.2.2.2.1, .v .bool a0.2.2.2.2.2.1, .v (.sl (.int .i64)) a0.2.2.2.2.2.2] 37]⟩) (φ := True ∧ True ∧ True) (by kernel_rfl) ⟨trivial, trivial, trivial⟩ ?_
    refine VO.nil ?_
    show VW _ _ _ _ _ _ _
    refine VW.block ?_
    refine VW.seq ?_
    refine VW.region ?_
    refine VO.seg T_ok .dp 2 [1, 3, 4, 8, 9] [0, 1] (s' := ⟨[(1, .lf (.ptr 0 0 0 0)), (3, .lf (.ptr 1 0 0 0)), (4, B false), (8, I a0.1), (9, B (a0.1 == (0 : Int)))], [bx [.v (.int .i64) a0.1, .v .str a0.2.1, .v (.int .i64) a0.2.2.1, .v (.int .i64) a0.2.2.2.1, .v (.int .i64) a0.2.2.2.2.1, .v .bool a0.2.2.2.2.2.1, .v (.sl (.int .i64)) a0.2.2.2.2.2.2] 37, bx [.v (.int .i64) (0 : Int), .v .str a0.2.1, .v (.int .i64) a0.2.2.1, .v (.int .i64) a0.2.2.2.1, .v (.int .i64) a0.2.2.2.2.1, .v .bool a0.2.2.2.2.2.1, .v (.sl (.int .i64)) a0.2.2.2.2.2.2] 37]⟩) (φ := True ∧ True ∧ True) (by kernel_rfl) ⟨trivial, trivial, trivial⟩ ?_
    refine VO.nil ?_
    show VW _ _ _ _ _ _ _
    refine VW.cond (b := (a0.1 == (0 : Int))) (by kernel_rfl) (fun hb => ?_) (fun hb => ?_)
    · replace h := cond_t h hb; clear hb
      refine VW.seq ?_
      refine VW.region ?_
      refine VO.seg T_ok .dp 2 [3, 12] [1] (s' := ⟨[(3, .lf (.ptr 0 0 0 0)), (12, S a0.2.1)], [bx [.v (.int .i64) (0 : Int), .v .str a0.2.1, .v (.int .i64) a0.2.2.1, .v (.int .i64) a0.2.2.2.1, .v (.int .i64) a0.2.2.2.2.1, .v .bool a0.2.2.2.2.2.1, .v (.sl (.int .i64)) a0.2.2.2.2.2.2] 37]⟩) (φ := True ∧ True ∧ True) (by kernel_rfl) ⟨trivial, trivial, trivial⟩ ?_
      obtain ⟨y47, hy, h⟩ := andO_some h
      refine VO.call false [.t .str] [] T_ok (d := some 13) (by kernel_rfl) (ok64 N _ hy) rfl ?_
      refine VO.seg T_ok .dp 1 [3, 4] [0] (s' := ⟨[(3, .lf (.ptr 0 0 0 0)), (4, B y47)], [bx [.v (.int .i64) (0 : Int), .v .str a0.2.1, .v (.int .i64) a0.2.2.1, .v (.int .i64) a0.2.2.2.1, .v (.int .i64) a0.2.2.2.2.1, .v .bool a0.2.2.2.2.2.1, .v (.sl (.int .i64)) a0.2.2.2.2.2.2] 37]⟩) (φ := True ∧ True) (by kernel_rfl) ⟨trivial, trivial⟩ ?_
      refine VO.nil ?_
      show VW _ _ _ _ _ _ _
      refine VW.region ?_
      refine VO.seg T_ok .dp 2 [3, 4] [0] (s' := ⟨[(3, .lf (.ptr 0 0 0 0)), (4, B y47)], [bx [.v (.int .i64) (0 : Int), .v .str ByteArray.empty, .v (.int .i64) a0.2.2.1, .v (.int .i64) a0.2.2.2.1, .v (.int .i64) a0.2.2.2.2.1, .v .bool a0.2.2.2.2.2.1, .v (.sl (.int .i64)) a0.2.2.2.2.2.2] 37]⟩) (φ := True ∧ True ∧ True) (by kernel_rfl) ⟨trivial, trivial, trivial⟩ ?_
      refine VO.nil ?_
      exact arrive [.ren [3, 4] [0]] (by kernel_rfl) ⟨ByteArray.empty, a0.2.2.1, a0.2.2.2.1, a0.2.2.2.2.1, a0.2.2.2.2.2.1, a0.2.2.2.2.2.2, y47, rfl, h⟩
    · replace h := cond_f h hb; clear hb
      refine VW.seq ?_
      refine VW.region ?_
      refine VO.seg T_ok .dp 2 [1, 3, 4, 8, 15] [0, 1] (s' := ⟨[(1, .lf (.ptr 0 0 0 0)), (3, .lf (.ptr 1 0 0 0)), (4, B false), (8, I a0.1), (15, B (a0.1 == (1 : Int)))], [bx [.v (.int .i64) a0.1, .v .str a0.2.1, .v (.int .i64) a0.2.2.1, .v (.int .i64) a0.2.2.2.1, .v (.int .i64) a0.2.2.2.2.1, .v .bool a0.2.2.2.2.2.1, .v (.sl (.int .i64)) a0.2.2.2.2.2.2] 37, bx [.v (.int .i64) (0 : Int), .v .str a0.2.1, .v (.int .i64) a0.2.2.1, .v (.int .i64) a0.2.2.2.1, .v (.int .i64) a0.2.2.2.2.1, .v .bool a0.2.2.2.2.2.1, .v (.sl (.int .i64)) a0.2.2.2.2.2.2] 37]⟩) (φ := True ∧ True ∧ True) (by kernel_rfl) ⟨trivial, trivial, trivial⟩ ?_
      refine VO.nil ?_
      show VW _ _ _ _ _ _ _
      refine VW.cond (b := (a0.1 == (1 : Int))) (by kernel_rfl) (fun hb => ?_) (fun hb => ?_)
      · replace h := cond_t h hb; clear hb
        refine VW.seq ?_
        refine VW.region ?_
        refine VO.seg T_ok .dp 2 [1, 3, 18] [0, 1] (s' := ⟨[(1, .lf (.ptr 0 0 0 0)), (3, .lf (.ptr 1 0 0 0)), (18, I a0.2.2.1)], [bx [.v (.int .i64) a0.1, .v .str a0.2.1, .v (.int .i64) a0.2.2.1, .v (.int .i64) a0.2.2.2.1, .v (.int .i64) a0.2.2.2.2.1, .v .bool a0.2.2.2.2.2.1, .v (.sl (.int .i64)) a0.2.2.2.2.2.2] 37, bx [.v (.int .i64) (0 : Int), .v .str a0.2.1, .v (.int .i64) a0.2.2.1, .v (.int .i64) a0.2.2.2.1, .v (.int .i64) a0.2.2.2.2.1, .v .bool a0.2.2.2.2.2.1, .v (.sl (.int .i64)) a0.2.2.2.2.2.2] 37]⟩) (φ := True ∧ True ∧ True) (by kernel_rfl) ⟨trivial, trivial, trivial⟩ ?_
        obtain ⟨y48, hy, h⟩ := andO_some h
        refine VO.call false [.t (.int .i64)] [] T_ok (d := some 19) (by kernel_rfl) (ok65 N _ hy) rfl ?_
        refine VO.seg T_ok .dp 1 [1, 3, 20] [0, 1] (s' := ⟨[(1, .lf (.ptr 0 0 0 0)), (3, .lf (.ptr 1 0 0 0)), (20, B y48)], [bx [.v (.int .i64) a0.1, .v .str a0.2.1, .v (.int .i64) a0.2.2.1, .v (.int .i64) a0.2.2.2.1, .v (.int .i64) a0.2.2.2.2.1, .v .bool a0.2.2.2.2.2.1, .v (.sl (.int .i64)) a0.2.2.2.2.2.2] 37, bx [.v (.int .i64) (0 : Int), .v .str a0.2.1, .v (.int .i64) a0.2.2.1, .v (.int .i64) a0.2.2.2.1, .v (.int .i64) a0.2.2.2.2.1, .v .bool a0.2.2.2.2.2.1, .v (.sl (.int .i64)) a0.2.2.2.2.2.2] 37]⟩) (φ := True ∧ True) (by kernel_rfl) ⟨trivial, trivial⟩ ?_
        refine VO.splitB 20 (b := y48) (by kernel_rfl) (fun hb => ?_) (fun hb => ?_)
        · replace h := cond_t h hb; clear hb
          refine VO.seg T_ok .dp 2 [1, 3, 20, 22] [0, 1] (s' := ⟨[(1, .lf (.ptr 0 0 0 0)), (3, .lf (.ptr 1 0 0 0)), (20, B true), (22, I a0.2.2.2.1)], [bx [.v (.int .i64) a0.1, .v .str a0.2.1, .v (.int .i64) a0.2.2.1, .v (.int .i64) a0.2.2.2.1, .v (.int .i64) a0.2.2.2.2.1, .v .bool a0.2.2.2.2.2.1, .v (.sl (.int .i64)) a0.2.2.2.2.2.2] 37, bx [.v (.int .i64) (0 : Int), .v .str a0.2.1, .v (.int .i64) a0.2.2.1, .v (.int .i64) a0.2.2.2.1, .v (.int .i64) a0.2.2.2.2.1, .v .bool a0.2.2.2.2.2.1, .v (.sl (.int .i64)) a0.2.2.2.2.2.2] 37]⟩) (φ := True ∧ True ∧ True) (by kernel_rfl) ⟨trivial, trivial, trivial⟩ ?_
          refine VO.on (j := 3) (want := true) (d := 20) (b := true) rfl rfl rfl (by kernel_rfl) rfl ?_
          obtain ⟨y49, hy, h⟩ := andO_some h
          refine VO.call false [.t (.int .i64), .t (.int .i64), .t (.int .i64)] [] T_ok (d := some 23) (by kernel_rfl) (ok38 N _ _ _ hy) rfl ?_
          refine VO.seg T_ok .dp 2 [1, 3, 4] [0, 1] (s' := ⟨[(1, .lf (.ptr 0 0 0 0)), (3, .lf (.ptr 1 0 0 0)), (4, B y49)], [bx [.v (.int .i64) a0.1, .v .str a0.2.1, .v (.int .i64) a0.2.2.1, .v (.int .i64) a0.2.2.2.1, .v (.int .i64) a0.2.2.2.2.1, .v .bool a0.2.2.2.2.2.1, .v (.sl (.int .i64)) a0.2.2.2.2.2.2] 37, bx [.v (.int .i64) (0 : Int), .v .str a0.2.1, .v (.int .i64) a0.2.2.1, .v (.int .i64) a0.2.2.2.1, .v (.int .i64) a0.2.2.2.2.1, .v .bool a0.2.2.2.2.2.1, .v (.sl (.int .i64)) a0.2.2.2.2.2.2] 37]⟩) (φ := True ∧ True ∧ True) (by kernel_rfl) ⟨trivial, trivial, trivial⟩ ?_
          refine VO.nil ?_
          show VW _ _ _ _ _ _ _
          refine VW.join (fun s => ∃ (x52 : ByteArray) (x53 : Int) (x54 : Int) (x55 : Int) (x56 : Bool) (x57 : (List Int)) (x58 : Bool), s = ⟨[(3, .lf (.ptr 0 0 0 0)), (4, B x58)], [bx [.v (.int .i64) (0 : Int), .v .str x52, .v (.int .i64) x53, .v (.int .i64) x54, .v (.int .i64) x55, .v .bool x56, .v (.sl (.int .i64)) x57] 37]⟩ ∧ F40_j1 N x52 x53 x54 x55 x56 x57 x58 = some r) ?_ ?_
          · refine VW.block ?_
            refine VW.seq ?_
            refine VW.region ?_
            refine VO.seg T_ok .dp 4 [1, 3, 4, 31] [0, 1] (s' := ⟨[(1, .lf (.ptr 0 0 0 0)), (3, .lf (.ptr 1 0 0 0)), (4, B y49), (31, B (a0.2.2.2.1 == (3 : Int)))], [bx [.v (.int .i64) a0.1, .v .str a0.2.1, .v (.int .i64) a0.2.2.1, .v (.int .i64) a0.2.2.2.1, .v (.int .i64) a0.2.2.2.2.1, .v .bool a0.2.2.2.2.2.1, .v (.sl (.int .i64)) a0.2.2.2.2.2.2] 37, bx [.v (.int .i64) (0 : Int), .v .str a0.2.1, .v (.int .i64) a0.2.2.1, .v (.int .i64) a0.2.2.2.1, .v (.int .i64) a0.2.2.2.2.1, .v .bool a0.2.2.2.2.2.1, .v (.sl (.int .i64)) a0.2.2.2.2.2.2] 37]⟩) (φ := True ∧ True ∧ True ∧ True ∧ True) (by kernel_rfl) ⟨trivial, trivial, trivial, trivial, trivial⟩ ?_
            refine VO.nil ?_
            show VW _ _ _ _ _ _ _
            refine VW.cond (b := (a0.2.2.2.1 == (3 : Int))) (by kernel_rfl) (fun hb => ?_) (fun hb => ?_)
            · replace h := cond_t h hb; clear hb
              refine VW.region ?_
              refine VO.seg T_ok .dp 2 [1, 3, 36] [0, 1] (s' := ⟨[(1, .lf (.ptr 0 0 0 0)), (3, .lf (.ptr 1 0 0 0)), (36, B y49)], [bx [.v (.int .i64) a0.1, .v .str a0.2.1, .v (.int .i64) a0.2.2.1, .v (.int .i64) a0.2.2.2.1, .v (.int .i64) a0.2.2.2.2.1, .v .bool a0.2.2.2.2.2.1, .v (.sl (.int .i64)) a0.2.2.2.2.2.2] 37, bx [.v (.int .i64) (0 : Int), .v .str a0.2.1, .v (.int .i64) a0.2.2.1, .v (.int .i64) a0.2.2.2.1, .v (.int .i64) a0.2.2.2.2.1, .v .bool a0.2.2.2.2.2.1, .v (.sl (.int .i64)) a0.2.2.2.2.2.2] 37]⟩) (φ := True ∧ True ∧ True) (by kernel_rfl) ⟨trivial, trivial, trivial⟩ ?_
              refine VO.splitB 36 (b := y49) (by kernel_rfl) (fun hb => ?_) (fun hb => ?_)
              · replace h := cond_t h hb; clear hb
                refine VO.seg T_ok .dp 5 [1, 3, 41] [0, 1] (s' := ⟨[(1, .lf (.ptr 0 0 0 0)), (3, .lf (.ptr 1 0 0 0)), (41, B (a0.2.2.2.2.1 == (0 : Int)))], [bx [.v (.int .i64) a0.1, .v .str a0.2.1, .v (.int .i64) a0.2.2.1, .v (.int .i64) a0.2.2.2.1, .v (.int .i64) a0.2.2.2.2.1, .v .bool a0.2.2.2.2.2.1, .v (.sl (.int .i64)) a0.2.2.2.2.2.2] 37, bx [.v (.int .i64) (0 : Int), .v .str a0.2.1, .v (.int .i64) a0.2.2.1, .v (.int .i64) a0.2.2.2.1, .v (.int .i64) a0.2.2.2.2.1, .v .bool a0.2.2.2.2.2.1, .v (.sl (.int .i64)) a0.2.2.2.2.2.2] 37]⟩) (φ := True ∧ True ∧ True ∧ True ∧ True ∧ True) (by kernel_rfl) ⟨trivial, trivial, trivial, trivial, trivial, trivial⟩ ?_
                refine VO.splitB 41 (b := (a0.2.2.2.2.1 == (0 : Int))) (by kernel_rfl) (fun hb => ?_) (fun hb => ?_)
                · replace h := cond_t h hb; clear hb
                  refine VO.seg T_ok .dp 5 [3, 4] [1] (s' := ⟨[(3, .lf (.ptr 0 0 0 0)), (4, B (!a0.2.2.2.2.2.1))], [bx [.v (.int .i64) (0 : Int), .v .str a0.2.1, .v (.int .i64) a0.2.2.1, .v (.int .i64) a0.2.2.2.1, .v (.int .i64) a0.2.2.2.2.1, .v .bool a0.2.2.2.2.2.1, .v (.sl (.int .i64)) a0.2.2.2.2.2.2] 37]⟩) (φ := True ∧ True ∧ True ∧ True ∧ True ∧ True) (by kernel_rfl) ⟨trivial, trivial, trivial, trivial, trivial, trivial⟩ ?_
                  refine VO.nil ?_
                  exact arrive [.ren [3, 4] [0]] (by kernel_rfl) ⟨a0.2.1, a0.2.2.1, a0.2.2.2.1, a0.2.2.2.2.1, a0.2.2.2.2.2.1, a0.2.2.2.2.2.2, (!a0.2.2.2.2.2.1), rfl, h⟩
                · replace h := cond_f h hb; clear hb
                  refine VO.seg T_ok .dp 5 [3, 4] [1] (s' := ⟨[(3, .lf (.ptr 0 0 0 0)), (4, B false)], [bx [.v (.int .i64) (0 : Int), .v .str a0.2.1, .v (.int .i64) a0.2.2.1, .v (.int .i64) a0.2.2.2.1, .v (.int .i64) a0.2.2.2.2.1, .v .bool a0.2.2.2.2.2.1, .v (.sl (.int .i64)) a0.2.2.2.2.2.2] 37]⟩) (φ := True ∧ True ∧ True ∧ True ∧ True ∧ True) (by kernel_rfl) ⟨trivial, trivial, trivial, trivial, trivial, trivial⟩ ?_
                  refine VO.nil ?_
                  exact arrive [.ren [3, 4] [0]] (by kernel_rfl) ⟨a0.2.1, a0.2.2.1, a0.2.2.2.1, a0.2.2.2.2.1, a0.2.2.2.2.2.1, a0.2.2.2.2.2.2, false, rfl, h⟩
              · replace h := cond_f h hb; clear hb
                refine VO.seg T_ok .dp 10 [3, 4] [1] (s' := ⟨[(3, .lf (.ptr 0 0 0 0)), (4, B false)], [bx [.v (.int .i64) (0 : Int), .v .str a0.2.1, .v (.int .i64) a0.2.2.1, .v (.int .i64) a0.2.2.2.1, .v (.int .i64) a0.2.2.2.2.1, .v .bool a0.2.2.2.2.2.1, .v (.sl (.int .i64)) a0.2.2.2.2.2.2] 37]⟩) (φ := True ∧ True ∧ True ∧ True ∧ True ∧ True ∧ True ∧ True ∧ True ∧ True ∧ True) (by kernel_rfl) ⟨trivial, trivial, trivial, trivial, trivial, trivial, trivial, trivial, trivial, trivial, trivial⟩ ?_
                refine VO.nil ?_
                exact arrive [.ren [3, 4] [0]] (by kernel_rfl) ⟨a0.2.1, a0.2.2.1, a0.2.2.2.1, a0.2.2.2.2.1, a0.2.2.2.2.2.1, a0.2.2.2.2.2.2, false, rfl, h⟩
            · replace h := cond_f h hb; clear hb
              refine VW.seq ?_
              refine VW.region ?_
              refine VO.seg T_ok .dp 3 [1, 3, 4, 46] [0, 1] (s' := ⟨[(1, .lf (.ptr 0 0 0 0)), (3, .lf (.ptr 1 0 0 0)), (4, B y49), (46, B a0.2.2.2.2.2.1)], [bx [.v (.int .i64) a0.1, .v .str a0.2.1, .v (.int .i64) a0.2.2.1, .v (.int .i64) a0.2.2.2.1, .v (.int .i64) a0.2.2.2.2.1, .v .bool a0.2.2.2.2.2.1, .v (.sl (.int .i64)) a0.2.2.2.2.2.2] 37, bx [.v (.int .i64) (0 : Int), .v .str a0.2.1, .v (.int .i64) a0.2.2.1, .v (.int .i64) a0.2.2.2.1, .v (.int .i64) a0.2.2.2.2.1, .v .bool a0.2.2.2.2.2.1, .v (.sl (.int .i64)) a0.2.2.2.2.2.2] 37]⟩) (φ := True ∧ True ∧ True ∧ True) (by kernel_rfl) ⟨trivial, trivial, trivial, trivial⟩ ?_
              refine VO.nil ?_
              show VW _ _ _ _ _ _ _
              refine VW.cond (b := a0.2.2.2.2.2.1) (by kernel_rfl) (fun hb => ?_) (fun hb => ?_)
              · replace h := cond_t h hb; clear hb
                refine VW.region ?_
                refine VO.seg T_ok .dp 2 [1, 3, 50] [0, 1] (s' := ⟨[(1, .lf (.ptr 0 0 0 0)), (3, .lf (.ptr 1 0 0 0)), (50, B y49)], [bx [.v (.int .i64) a0.1, .v .str a0.2.1, .v (.int .i64) a0.2.2.1, .v (.int .i64) a0.2.2.2.1, .v (.int .i64) a0.2.2.2.2.1, .v .bool a0.2.2.2.2.2.1, .v (.sl (.int .i64)) a0.2.2.2.2.2.2] 37, bx [.v (.int .i64) (0 : Int), .v .str a0.2.1, .v (.int .i64) a0.2.2.1, .v (.int .i64) a0.2.2.2.1, .v (.int .i64) a0.2.2.2.2.1, .v .bool a0.2.2.2.2.2.1, .v (.sl (.int .i64)) a0.2.2.2.2.2.2] 37]⟩) (φ := True ∧ True ∧ True) (by kernel_rfl) ⟨trivial, trivial, trivial⟩ ?_
                refine VO.splitB 50 (b := y49) (by kernel_rfl) (fun hb => ?_) (fun hb => ?_)
                · replace h := cond_t h hb; clear hb
                  refine VO.seg T_ok .dp 2 [3, 50, 52] [1] (s' := ⟨[(3, .lf (.ptr 0 0 0 0)), (50, B true), (52, I a0.2.2.2.2.1)], [bx [.v (.int .i64) (0 : Int), .v .str a0.2.1, .v (.int .i64) a0.2.2.1, .v (.int .i64) a0.2.2.2.1, .v (.int .i64) a0.2.2.2.2.1, .v .bool a0.2.2.2.2.2.1, .v (.sl (.int .i64)) a0.2.2.2.2.2.2] 37]⟩) (φ := True ∧ True ∧ True) (by kernel_rfl) ⟨trivial, trivial, trivial⟩ ?_
                  refine VO.on (j := 1) (want := true) (d := 50) (b := true) rfl rfl rfl (by kernel_rfl) rfl ?_
                  obtain ⟨y60, hy, h⟩ := andO_some h
                  refine VO.call false [.t (.int .i64)] [] T_ok (d := some 53) (by kernel_rfl) (ok66 N _ hy) rfl ?_
                  refine VO.seg T_ok .dp 2 [3, 4] [0] (s' := ⟨[(3, .lf (.ptr 0 0 0 0)), (4, B y60)], [bx [.v (.int .i64) (0 : Int), .v .str a0.2.1, .v (.int .i64) a0.2.2.1, .v (.int .i64) a0.2.2.2.1, .v (.int .i64) a0.2.2.2.2.1, .v .bool a0.2.2.2.2.2.1, .v (.sl (.int .i64)) a0.2.2.2.2.2.2] 37]⟩) (φ := True ∧ True ∧ True) (by kernel_rfl) ⟨trivial, trivial, trivial⟩ ?_
                  refine VO.nil ?_
                  exact arrive [.ren [3, 4] [0]] (by kernel_rfl) ⟨a0.2.1, a0.2.2.1, a0.2.2.2.1, a0.2.2.2.2.1, a0.2.2.2.2.2.1, a0.2.2.2.2.2.2, y60, rfl, h⟩
                · replace h := cond_f h hb; clear hb
                  refine VO.seg T_ok .dp 5 [3, 4] [1] (s' := ⟨[(3, .lf (.ptr 0 0 0 0)), (4, B false)], [bx [.v (.int .i64) (0 : Int), .v .str a0.2.1, .v (.int .i64) a0.2.2.1, .v (.int .i64) a0.2.2.2.1, .v (.int .i64) a0.2.2.2.2.1, .v .bool a0.2.2.2.2.2.1, .v (.sl (.int .i64)) a0.2.2.2.2.2.2] 37]⟩) (φ := True ∧ True ∧ True ∧ True ∧ True ∧ True) (by kernel_rfl) ⟨trivial, trivial, trivial, trivial, trivial, trivial⟩ ?_
                  refine VO.nil ?_
                  exact arrive [.ren [3, 4] [0]] (by kernel_rfl) ⟨a0.2.1, a0.2.2.1, a0.2.2.2.1, a0.2.2.2.2.1, a0.2.2.2.2.2.1, a0.2.2.2.2.2.2, false, rfl, h⟩
              · replace h := cond_f h hb; clear hb
                refine VW.region ?_
                refine VO.seg T_ok .dp 2 [1, 3, 26] [0, 1] (s' := ⟨[(1, .lf (.ptr 0 0 0 0)), (3, .lf (.ptr 1 0 0 0)), (26, B y49)], [bx [.v (.int .i64) a0.1, .v .str a0.2.1, .v (.int .i64) a0.2.2.1, .v (.int .i64) a0.2.2.2.1, .v (.int .i64) a0.2.2.2.2.1, .v .bool a0.2.2.2.2.2.1, .v (.sl (.int .i64)) a0.2.2.2.2.2.2] 37, bx [.v (.int .i64) (0 : Int), .v .str a0.2.1, .v (.int .i64) a0.2.2.1, .v (.int .i64) a0.2.2.2.1, .v (.int .i64) a0.2.2.2.2.1, .v .bool a0.2.2.2.2.2.1, .v (.sl (.int .i64)) a0.2.2.2.2.2.2] 37]⟩) (φ := True ∧ True ∧ True) (by kernel_rfl) ⟨trivial, trivial, trivial⟩ ?_
                refine VO.splitB 26 (b := y49) (by kernel_rfl) (fun hb => ?_) (fun hb => ?_)
                · replace h := cond_t h hb; clear hb
                  refine VO.seg T_ok .dp 2 [3, 26, 28] [1] (s' := ⟨[(3, .lf (.ptr 0 0 0 0)), (26, B true), (28, I a0.2.2.2.2.1)], [bx [.v (.int .i64) (0 : Int), .v .str a0.2.1, .v (.int .i64) a0.2.2.1, .v (.int .i64) a0.2.2.2.1, .v (.int .i64) a0.2.2.2.2.1, .v .bool a0.2.2.2.2.2.1, .v (.sl (.int .i64)) a0.2.2.2.2.2.2] 37]⟩) (φ := True ∧ True ∧ True) (by kernel_rfl) ⟨trivial, trivial, trivial⟩ ?_
                  refine VO.on (j := 1) (want := true) (d := 26) (b := true) rfl rfl rfl (by kernel_rfl) rfl ?_
                  obtain ⟨y61, hy, h⟩ := andO_some h
                  refine VO.call false [.t (.int .i64)] [] T_ok (d := some 29) (by kernel_rfl) (ok67 N _ hy) rfl ?_
                  refine VO.seg T_ok .dp 2 [3, 4] [0] (s' := ⟨[(3, .lf (.ptr 0 0 0 0)), (4, B y61)], [bx [.v (.int .i64) (0 : Int), .v .str a0.2.1, .v (.int .i64) a0.2.2.1, .v (.int .i64) a0.2.2.2.1, .v (.int .i64) a0.2.2.2.2.1, .v .bool a0.2.2.2.2.2.1, .v (.sl (.int .i64)) a0.2.2.2.2.2.2] 37]⟩) (φ := True ∧ True ∧ True) (by kernel_rfl) ⟨trivial, trivial, trivial⟩ ?_
                  refine VO.nil ?_
                  exact arrive [.ren [3, 4] [0]] (by kernel_rfl) ⟨a0.2.1, a0.2.2.1, a0.2.2.2.1, a0.2.2.2.2.1, a0.2.2.2.2.2.1, a0.2.2.2.2.2.2, y61, rfl, h⟩
                · replace h := cond_f h hb; clear hb
                  refine VO.seg T_ok .dp 5 [3, 4] [1] (s' := ⟨[(3, .lf (.ptr 0 0 0 0)), (4, B false)], [bx [.v (.int .i64) (0 : Int), .v .str a0.2.1, .v (.int .i64) a0.2.2.1, .v (.int .i64) a0.2.2.2.1, .v (.int .i64) a0.2.2.2.2.1, .v .bool a0.2.2.2.2.2.1, .v (.sl (.int .i64)) a0.2.2.2.2.2.2] 37]⟩) (φ := True ∧ True ∧ True ∧ True ∧ True ∧ True) (by kernel_rfl) ⟨trivial, trivial, trivial, trivial, trivial, trivial⟩ ?_
                  refine VO.nil ?_
                  exact arrive [.ren [3, 4] [0]] (by kernel_rfl) ⟨a0.2.1, a0.2.2.1, a0.2.2.2.1, a0.2.2.2.2.1, a0.2.2.2.2.2.1, a0.2.2.2.2.2.2, false, rfl, h⟩
          · rintro s ⟨x52, x53, x54, x55, x56, x57, x58, rfl, h⟩
            unfold F40_j1 at h
            refine VW.region ?_
            refine VO.seg T_ok .dp 8 [3, 4] [0] (s' := ⟨[(3, .lf (.ptr 0 0 0 0)), (4, B x58)], [bx [.v (.int .i64) (0 : Int), .v .str x52, .v (.int .i64) (0 : Int), .v (.int .i64) (0 : Int), .v (.int .i64) (0 : Int), .v .bool false, .v (.sl (.int .i64)) x57] 37]⟩) (φ := True ∧ True ∧ True ∧ True ∧ True ∧ True ∧ True ∧ True ∧ True) (by kernel_rfl) ⟨trivial, trivial, trivial, trivial, trivial, trivial, trivial, trivial, trivial⟩ ?_
            refine VO.nil ?_
            exact arrive [.ren [3, 4] [0]] (by kernel_rfl) ⟨x52, (0 : Int), (0 : Int), (0 : Int), false, x57, x58, rfl, h⟩
        · replace h := cond_f h hb; clear hb
          refine VO.seg T_ok .dp 5 [1, 3, 4] [0, 1] (s' := ⟨[(1, .lf (.ptr 0 0 0 0)), (3, .lf (.ptr 1 0 0 0)), (4, B false)], [bx [.v (.int .i64) a0.1, .v .str a0.2.1, .v (.int .i64) a0.2.2.1, .v (.int .i64) a0.2.2.2.1, .v (.int .i64) a0.2.2.2.2.1, .v .bool a0.2.2.2.2.2.1, .v (.sl (.int .i64)) a0.2.2.2.2.2.2] 37, bx [.v (.int .i64) (0 : Int), .v .str a0.2.1, .v (.int .i64) a0.2.2.1, .v (.int .i64) a0.2.2.2.1, .v (.int .i64) a0.2.2.2.2.1, .v .bool a0.2.2.2.2.2.1, .v (.sl (.int .i64)) a0.2.2.2.2.2.2] 37]⟩) (φ := True ∧ True ∧ True ∧ True ∧ True ∧ True) (by kernel_rfl) ⟨trivial, trivial, trivial, trivial, trivial, trivial⟩ ?_
          refine VO.nil ?_
          show VW _ _ _ _ _ _ _
          refine VW.join (fun s => ∃ (x62 : ByteArray) (x63 : Int) (x64 : Int) (x65 : Int) (x66 : Bool) (x67 : (List Int)), s = ⟨[(3, .lf (.ptr 0 0 0 0)), (4, B false)], [bx [.v (.int .i64) (0 : Int), .v .str x62, .v (.int .i64) x63, .v (.int .i64) x64, .v (.int .i64) x65, .v .bool x66, .v (.sl (.int .i64)) x67] 37]⟩ ∧ F40_j2 N x62 x63 x64 x65 x66 x67 = some r) ?_ ?_
          · refine VW.block ?_
            refine VW.seq ?_
            refine VW.region ?_
            refine VO.seg T_ok .dp 4 [1, 3, 4, 31] [0, 1] (s' := ⟨[(1, .lf (.ptr 0 0 0 0)), (3, .lf (.ptr 1 0 0 0)), (4, B false), (31, B (a0.2.2.2.1 == (3 : Int)))], [bx [.v (.int .i64) a0.1, .v .str a0.2.1, .v (.int .i64) a0.2.2.1, .v (.int .i64) a0.2.2.2.1, .v (.int .i64) a0.2.2.2.2.1, .v .bool a0.2.2.2.2.2.1, .v (.sl (.int .i64)) a0.2.2.2.2.2.2] 37, bx [.v (.int .i64) (0 : Int), .v .str a0.2.1, .v (.int .i64) a0.2.2.1, .v (.int .i64) a0.2.2.2.1, .v (.int .i64) a0.2.2.2.2.1, .v .bool a0.2.2.2.2.2.1, .v (.sl (.int .i64)) a0.2.2.2.2.2.2] 37]⟩) (φ := True ∧ True ∧ True ∧ True ∧ True) (by kernel_rfl) ⟨trivial, trivial, trivial, trivial, trivial⟩ ?_
            refine VO.nil ?_
            show VW _ _ _ _ _ _ _
            refine VW.cond (b := (a0.2.2.2.1 == (3 : Int))) (by kernel_rfl) (fun hb => ?_) (fun hb => ?_)
            · replace h := cond_t h hb; clear hb
              refine VW.region ?_
              refine VO.seg T_ok .dp 12 [3, 4] [1] (s' := ⟨[(3, .lf (.ptr 0 0 0 0)), (4, B false)], [bx [.v (.int .i64) (0 : Int), .v .str a0.2.1, .v (.int .i64) a0.2.2.1, .v (.int .i64) a0.2.2.2.1, .v (.int .i64) a0.2.2.2.2.1, .v .bool a0.2.2.2.2.2.1, .v (.sl (.int .i64)) a0.2.2.2.2.2.2] 37]⟩) (φ := True ∧ True ∧ True ∧ True ∧ True ∧ True ∧ True ∧ True ∧ True ∧ True ∧ True ∧ True ∧ True) (by kernel_rfl) ⟨trivial, trivial, trivial, trivial, trivial, trivial, trivial, trivial, trivial, trivial, trivial, trivial, trivial⟩ ?_
              refine VO.nil ?_
              exact arrive [.ren [3, 4] [0]] (by kernel_rfl) ⟨a0.2.1, a0.2.2.1, a0.2.2.2.1, a0.2.2.2.2.1, a0.2.2.2.2.2.1, a0.2.2.2.2.2.2, rfl, h⟩
            · replace h := cond_f h hb; clear hb
              refine VW.seq ?_
              refine VW.region ?_
              refine VO.seg T_ok .dp 3 [1, 3, 4, 46] [0, 1] (s' := ⟨[(1, .lf (.ptr 0 0 0 0)), (3, .lf (.ptr 1 0 0 0)), (4, B false), (46, B a0.2.2.2.2.2.1)], [bx [.v (.int .i64) a0.1, .v .str a0.2.1, .v (.int .i64) a0.2.2.1, .v (.int .i64) a0.2.2.2.1, .v (.int .i64) a0.2.2.2.2.1, .v .bool a0.2.2.2.2.2.1, .v (.sl (.int .i64)) a0.2.2.2.2.2.2] 37, bx [.v (.int .i64) (0 : Int), .v .str a0.2.1, .v (.int .i64) a0.2.2.1, .v (.int .i64) a0.2.2.2.1, .v (.int .i64) a0.2.2.2.2.1, .v .bool a0.2.2.2.2.2.1, .v (.sl (.int .i64)) a0.2.2.2.2.2.2] 37]⟩) (φ := True ∧ True ∧ True ∧ True) (by kernel_rfl) ⟨trivial, trivial, trivial, trivial⟩ ?_
              refine VO.nil ?_
              show VW _ _ _ _ _ _ _
              refine VW.cond (b := a0.2.2.2.2.2.1) (by kernel_rfl) (fun hb => ?_) (fun hb => ?_)
              · replace h := cond_t h hb; clear hb
                refine VW.region ?_
                refine VO.seg T_ok .dp 7 [3, 4] [1] (s' := ⟨[(3, .lf (.ptr 0 0 0 0)), (4, B false)], [bx [.v (.int .i64) (0 : Int), .v .str a0.2.1, .v (.int .i64) a0.2.2.1, .v (.int .i64) a0.2.2.2.1, .v (.int .i64) a0.2.2.2.2.1, .v .bool a0.2.2.2.2.2.1, .v (.sl (.int .i64)) a0.2.2.2.2.2.2] 37]⟩) (φ := True ∧ True ∧ True ∧ True ∧ True ∧ True ∧ True ∧ True) (by kernel_rfl) ⟨trivial, trivial, trivial, trivial, trivial, trivial, trivial, trivial⟩ ?_
                refine VO.nil ?_
                exact arrive [.ren [3, 4] [0]] (by kernel_rfl) ⟨a0.2.1, a0.2.2.1, a0.2.2.2.1, a0.2.2.2.2.1, a0.2.2.2.2.2.1, a0.2.2.2.2.2.2, rfl, h⟩
              · replace h := cond_f h hb; clear hb
                refine VW.region ?_
                refine VO.seg T_ok .dp 7 [3, 4] [1] (s' := ⟨[(3, .lf (.ptr 0 0 0 0)), (4, B false)], [bx [.v (.int .i64) (0 : Int), .v .str a0.2.1, .v (.int .i64) a0.2.2.1, .v (.int .i64) a0.2.2.2.1, .v (.int .i64) a0.2.2.2.2.1, .v .bool a0.2.2.2.2.2.1, .v (.sl (.int .i64)) a0.2.2.2.2.2.2] 37]⟩) (φ := True ∧ True ∧ True ∧ True ∧ True ∧ True ∧ True ∧ True) (by kernel_rfl) ⟨trivial, trivial, trivial, trivial, trivial, trivial, trivial, trivial⟩ ?_
                refine VO.nil ?_
                exact arrive [.ren [3, 4] [0]] (by kernel_rfl) ⟨a0.2.1, a0.2.2.1, a0.2.2.2.1, a0.2.2.2.2.1, a0.2.2.2.2.2.1, a0.2.2.2.2.2.2, rfl, h⟩
          · rintro s ⟨x62, x63, x64, x65, x66, x67, rfl, h⟩
            unfold F40_j2 at h
            refine VW.region ?_
            refine VO.seg T_ok .dp 8 [3, 4] [0] (s' := ⟨[(3, .lf (.ptr 0 0 0 0)), (4, B false)], [bx [.v (.int .i64) (0 : Int), .v .str x62, .v (.int .i64) (0 : Int), .v (.int .i64) (0 : Int), .v (.int .i64) (0 : Int), .v .bool false, .v (.sl (.int .i64)) x67] 37]⟩) (φ := True ∧ True ∧ True ∧ True ∧ True ∧ True ∧ True ∧ True ∧ True) (by kernel_rfl) ⟨trivial, trivial, trivial, trivial, trivial, trivial, trivial, trivial, trivial⟩ ?_
            refine VO.nil ?_
            exact arrive [.ren [3, 4] [0]] (by kernel_rfl) ⟨x62, (0 : Int), (0 : Int), (0 : Int), false, x67, false, rfl, h⟩
      · replace h := cond_f h hb; clear hb
        refine VW.seq ?_
        refine VW.region ?_
        refine VO.seg T_ok .dp 2 [1, 3, 4, 8, 59] [0, 1] (s' := ⟨[(1, .lf (.ptr 0 0 0 0)), (3, .lf (.ptr 1 0 0 0)), (4, B false), (8, I a0.1), (59, B (a0.1 == (2 : Int)))], [bx [.v (.int .i64) a0.1, .v .str a0.2.1, .v (.int .i64) a0.2.2.1, .v (.int .i64) a0.2.2.2.1, .v (.int .i64) a0.2.2.2.2.1, .v .bool a0.2.2.2.2.2.1, .v (.sl (.int .i64)) a0.2.2.2.2.2.2] 37, bx [.v (.int .i64) (0 : Int), .v .str a0.2.1, .v (.int .i64) a0.2.2.1, .v (.int .i64) a0.2.2.2.1, .v (.int .i64) a0.2.2.2.2.1, .v .bool a0.2.2.2.2.2.1, .v (.sl (.int .i64)) a0.2.2.2.2.2.2] 37]⟩) (φ := True ∧ True ∧ True) (by kernel_rfl) ⟨trivial, trivial, trivial⟩ ?_
        refine VO.nil ?_
        show VW _ _ _ _ _ _ _
        refine VW.cond (b := (a0.1 == (2 : Int))) (by kernel_rfl) (fun hb => ?_) (fun hb => ?_)
        · replace h := cond_t h hb; clear hb
          refine VW.seq ?_
          refine VW.region ?_
          refine VO.seg T_ok .dp 3 [1, 3, 63] [0, 1] (s' := ⟨[(1, .lf (.ptr 0 0 0 0)), (3, .lf (.ptr 1 0 0 0)), (63, I (a0.2.2.2.2.2.2.length : Int))], [bx [.v (.int .i64) a0.1, .v .str a0.2.1, .v (.int .i64) a0.2.2.1, .v (.int .i64) a0.2.2.2.1, .v (.int .i64) a0.2.2.2.2.1, .v .bool a0.2.2.2.2.2.1, .v (.sl (.int .i64)) a0.2.2.2.2.2.2] 37, bx [.v (.int .i64) (0 : Int), .v .str a0.2.1, .v (.int .i64) a0.2.2.1, .v (.int .i64) a0.2.2.2.1, .v (.int .i64) a0.2.2.2.2.1, .v .bool a0.2.2.2.2.2.1, .v (.sl (.int .i64)) a0.2.2.2.2.2.2] 37]⟩) (φ := True ∧ True ∧ True ∧ True) (by kernel_rfl) ⟨trivial, trivial, trivial, trivial⟩ ?_
          obtain ⟨y69, hy, h⟩ := andO_some h
          refine VO.call false [.t (.int .i64), .t (.int .i64), .t (.int .i64)] [] T_ok (d := some 64) (by kernel_rfl) (ok38 N _ _ _ hy) rfl ?_
          refine VO.seg T_ok .dp 1 [1, 3, 65] [0, 1] (s' := ⟨[(1, .lf (.ptr 0 0 0 0)), (3, .lf (.ptr 1 0 0 0)), (65, B y69)], [bx [.v (.int .i64) a0.1, .v .str a0.2.1, .v (.int .i64) a0.2.2.1, .v (.int .i64) a0.2.2.2.1, .v (.int .i64) a0.2.2.2.2.1, .v .bool a0.2.2.2.2.2.1, .v (.sl (.int .i64)) a0.2.2.2.2.2.2] 37, bx [.v (.int .i64) (0 : Int), .v .str a0.2.1, .v (.int .i64) a0.2.2.1, .v (.int .i64) a0.2.2.2.1, .v (.int .i64) a0.2.2.2.2.1, .v .bool a0.2.2.2.2.2.1, .v (.sl (.int .i64)) a0.2.2.2.2.2.2] 37]⟩) (φ := True ∧ True) (by kernel_rfl) ⟨trivial, trivial⟩ ?_
          refine VO.splitB 65 (b := y69) (by kernel_rfl) (fun hb => ?_) (fun hb => ?_)
          · replace h := cond_t h hb; clear hb
            refine VO.seg T_ok .dp 2 [3, 65, 67] [1] (s' := ⟨[(3, .lf (.ptr 0 0 0 0)), (65, B true), (67, .lf (.v (.sl (.int .i64)) a0.2.2.2.2.2.2))], [bx [.v (.int .i64) (0 : Int), .v .str a0.2.1, .v (.int .i64) a0.2.2.1, .v (.int .i64) a0.2.2.2.1, .v (.int .i64) a0.2.2.2.2.1, .v .bool a0.2.2.2.2.2.1, .v (.sl (.int .i64)) a0.2.2.2.2.2.2] 37]⟩) (φ := True ∧ True ∧ True) (by kernel_rfl) ⟨trivial, trivial, trivial⟩ ?_
            refine VO.on (j := 4) (want := true) (d := 65) (b := true) rfl rfl rfl (by kernel_rfl) rfl ?_
            obtain ⟨y70, hy, h⟩ := andO_some h
            refine VO.call false [.t (.sl (.int .i64)), .clo []] [] T_ok (d := some 68) (by kernel_rfl) (ok68 N _ 69  (fun z0 => F69 N z0 ) (fun z0 _ hz => ok69 N z0 hz) hy) rfl ?_
            refine VO.seg T_ok .dp 3 [3, 4] [0] (s' := ⟨[(3, .lf (.ptr 0 0 0 0)), (4, B (!y70))], [bx [.v (.int .i64) (0 : Int), .v .str a0.2.1, .v (.int .i64) a0.2.2.1, .v (.int .i64) a0.2.2.2.1, .v (.int .i64) a0.2.2.2.2.1, .v .bool a0.2.2.2.2.2.1, .v (.sl (.int .i64)) a0.2.2.2.2.2.2] 37]⟩) (φ := True ∧ True ∧ True ∧ True) (by kernel_rfl) ⟨trivial, trivial, trivial, trivial⟩ ?_
            refine VO.nil ?_
            show VW _ _ _ _ _ _ _
            refine VW.region ?_
            refine VO.seg T_ok .dp 2 [3, 4] [0] (s' := ⟨[(3, .lf (.ptr 0 0 0 0)), (4, B (!y70))], [bx [.v (.int .i64) (0 : Int), .v .str a0.2.1, .v (.int .i64) a0.2.2.1, .v (.int .i64) a0.2.2.2.1, .v (.int .i64) a0.2.2.2.2.1, .v .bool a0.2.2.2.2.2.1, .nil] 37]⟩) (φ := True ∧ True ∧ True) (by kernel_rfl) ⟨trivial, trivial, trivial⟩ ?_
            refine VO.nil ?_
            exact arrive [.nilB 0 6 (.int .i64), .ren [3, 4] [0]] (by kernel_rfl) ⟨a0.2.1, a0.2.2.1, a0.2.2.2.1, a0.2.2.2.2.1, a0.2.2.2.2.2.1, [], (!y70), rfl, h⟩
          · replace h := cond_f h hb; clear hb
            refine VO.seg T_ok .dp 6 [3, 4] [1] (s' := ⟨[(3, .lf (.ptr 0 0 0 0)), (4, B false)], [bx [.v (.int .i64) (0 : Int), .v .str a0.2.1, .v (.int .i64) a0.2.2.1, .v (.int .i64) a0.2.2.2.1, .v (.int .i64) a0.2.2.2.2.1, .v .bool a0.2.2.2.2.2.1, .v (.sl (.int .i64)) a0.2.2.2.2.2.2] 37]⟩) (φ := True ∧ True ∧ True ∧ True ∧ True ∧ True ∧ True) (by kernel_rfl) ⟨trivial, trivial, trivial, trivial, trivial, trivial, trivial⟩ ?_
            refine VO.nil ?_
            show VW _ _ _ _ _ _ _
            refine VW.region ?_
            refine VO.seg T_ok .dp 2 [3, 4] [0] (s' := ⟨[(3, .lf (.ptr 0 0 0 0)), (4, B false)], [bx [.v (.int .i64) (0 : Int), .v .str a0.2.1, .v (.int .i64) a0.2.2.1, .v (.int .i64) a0.2.2.2.1, .v (.int .i64) a0.2.2.2.2.1, .v .bool a0.2.2.2.2.2.1, .nil] 37]⟩) (φ := True ∧ True ∧ True) (by kernel_rfl) ⟨trivial, trivial, trivial⟩ ?_
            refine VO.nil ?_
            exact arrive [.nilB 0 6 (.int .i64), .ren [3, 4] [0]] (by kernel_rfl) ⟨a0.2.1, a0.2.2.1, a0.2.2.2.1, a0.2.2.2.2.1, a0.2.2.2.2.2.1, [], false, rfl, h⟩
        · replace h := cond_f h hb; clear hb
          refine VW.seq ?_
          refine VW.region ?_
          refine VO.seg T_ok .dp 2 [1, 3, 4, 8, 72] [0, 1] (s' := ⟨[(1, .lf (.ptr 0 0 0 0)), (3, .lf (.ptr 1 0 0 0)), (4, B false), (8, I a0.1), (72, B (a0.1 == (3 : Int)))], [bx [.v (.int .i64) a0.1, .v .str a0.2.1, .v (.int .i64) a0.2.2.1, .v (.int .i64) a0.2.2.2.1, .v (.int .i64) a0.2.2.2.2.1, .v .bool a0.2.2.2.2.2.1, .v (.sl (.int .i64)) a0.2.2.2.2.2.2] 37, bx [.v (.int .i64) (0 : Int), .v .str a0.2.1, .v (.int .i64) a0.2.2.1, .v (.int .i64) a0.2.2.2.1, .v (.int .i64) a0.2.2.2.2.1, .v .bool a0.2.2.2.2.2.1, .v (.sl (.int .i64)) a0.2.2.2.2.2.2] 37]⟩) (φ := True ∧ True ∧ True) (by kernel_rfl) ⟨trivial, trivial, trivial⟩ ?_
          refine VO.nil ?_
          show VW _ _ _ _ _ _ _
          refine VW.cond (b := (a0.1 == (3 : Int))) (by kernel_rfl) (fun hb => ?_) (fun hb => ?_)
          · replace h := cond_t h hb; clear hb
            refine VW.seq ?_
            refine VW.region ?_
            refine VO.seg T_ok .dp 2 [1, 3, 75] [0, 1] (s' := ⟨[(1, .lf (.ptr 0 0 0 0)), (3, .lf (.ptr 1 0 0 0)), (75, I a0.2.2.1)], [bx [.v (.int .i64) a0.1, .v .str a0.2.1, .v (.int .i64) a0.2.2.1, .v (.int .i64) a0.2.2.2.1, .v (.int .i64) a0.2.2.2.2.1, .v .bool a0.2.2.2.2.2.1, .v (.sl (.int .i64)) a0.2.2.2.2.2.2] 37, bx [.v (.int .i64) (0 : Int), .v .str a0.2.1, .v (.int .i64) a0.2.2.1, .v (.int .i64) a0.2.2.2.1, .v (.int .i64) a0.2.2.2.2.1, .v .bool a0.2.2.2.2.2.1, .v (.sl (.int .i64)) a0.2.2.2.2.2.2] 37]⟩) (φ := True ∧ True ∧ True) (by kernel_rfl) ⟨trivial, trivial, trivial⟩ ?_
            obtain ⟨y71, hy, h⟩ := andO_some h
            refine VO.call false [.t (.int .i64)] [] T_ok (d := some 76) (by kernel_rfl) (ok65 N _ hy) rfl ?_
            refine VO.seg T_ok .dp 1 [1, 3, 77] [0, 1] (s' := ⟨[(1, .lf (.ptr 0 0 0 0)), (3, .lf (.ptr 1 0 0 0)), (77, B y71)], [bx [.v (.int .i64) a0.1, .v .str a0.2.1, .v (.int .i64) a0.2.2.1, .v (.int .i64) a0.2.2.2.1, .v (.int .i64) a0.2.2.2.2.1, .v .bool a0.2.2.2.2.2.1, .v (.sl (.int .i64)) a0.2.2.2.2.2.2] 37, bx [.v (.int .i64) (0 : Int), .v .str a0.2.1, .v (.int .i64) a0.2.2.1, .v (.int .i64) a0.2.2.2.1, .v (.int .i64) a0.2.2.2.2.1, .v .bool a0.2.2.2.2.2.1, .v (.sl (.int .i64)) a0.2.2.2.2.2.2] 37]⟩) (φ := True ∧ True) (by kernel_rfl) ⟨trivial, trivial⟩ ?_
            refine VO.splitB 77 (b := y71) (by kernel_rfl) (fun hb => ?_) (fun hb => ?_)
            · replace h := cond_t h hb; clear hb
              refine VO.seg T_ok .dp 2 [3, 77, 79] [1] (s' := ⟨[(3, .lf (.ptr 0 0 0 0)), (77, B true), (79, I a0.2.2.2.2.1)], [bx [.v (.int .i64) (0 : Int), .v .str a0.2.1, .v (.int .i64) a0.2.2.1, .v (.int .i64) a0.2.2.2.1, .v (.int .i64) a0.2.2.2.2.1, .v .bool a0.2.2.2.2.2.1, .v (.sl (.int .i64)) a0.2.2.2.2.2.2] 37]⟩) (φ := True ∧ True ∧ True) (by kernel_rfl) ⟨trivial, trivial, trivial⟩ ?_
              refine VO.on (j := 3) (want := true) (d := 77) (b := true) rfl rfl rfl (by kernel_rfl) rfl ?_
              obtain ⟨y72, hy, h⟩ := andO_some h
              refine VO.call false [.t (.int .i64)] [] T_ok (d := some 80) (by kernel_rfl) (ok65 N _ hy) rfl ?_
              refine VO.seg T_ok .dp 2 [3, 4] [0] (s' := ⟨[(3, .lf (.ptr 0 0 0 0)), (4, B y72)], [bx [.v (.int .i64) (0 : Int), .v .str a0.2.1, .v (.int .i64) a0.2.2.1, .v (.int .i64) a0.2.2.2.1, .v (.int .i64) a0.2.2.2.2.1, .v .bool a0.2.2.2.2.2.1, .v (.sl (.int .i64)) a0.2.2.2.2.2.2] 37]⟩) (φ := True ∧ True ∧ True) (by kernel_rfl) ⟨trivial, trivial, trivial⟩ ?_
              refine VO.nil ?_
              show VW _ _ _ _ _ _ _
              refine VW.region ?_
              refine VO.seg T_ok .dp 4 [3, 4] [0] (s' := ⟨[(3, .lf (.ptr 0 0 0 0)), (4, B y72)], [bx [.v (.int .i64) (0 : Int), .v .str a0.2.1, .v (.int .i64) (0 : Int), .v (.int .i64) a0.2.2.2.1, .v (.int .i64) (0 : Int), .v .bool a0.2.2.2.2.2.1, .v (.sl (.int .i64)) a0.2.2.2.2.2.2] 37]⟩) (φ := True ∧ True ∧ True ∧ True ∧ True) (by kernel_rfl) ⟨trivial, trivial, trivial, trivial, trivial⟩ ?_
              refine VO.nil ?_
              exact arrive [.ren [3, 4] [0]] (by kernel_rfl) ⟨a0.2.1, (0 : Int), a0.2.2.2.1, (0 : Int), a0.2.2.2.2.2.1, a0.2.2.2.2.2.2, y72, rfl, h⟩
            · replace h := cond_f h hb; clear hb
              refine VO.seg T_ok .dp 5 [3, 4] [1] (s' := ⟨[(3, .lf (.ptr 0 0 0 0)), (4, B false)], [bx [.v (.int .i64) (0 : Int), .v .str a0.2.1, .v (.int .i64) a0.2.2.1, .v (.int .i64) a0.2.2.2.1, .v (.int .i64) a0.2.2.2.2.1, .v .bool a0.2.2.2.2.2.1, .v (.sl (.int .i64)) a0.2.2.2.2.2.2] 37]⟩) (φ := True ∧ True ∧ True ∧ True ∧ True ∧ True) (by kernel_rfl) ⟨trivial, trivial, trivial, trivial, trivial, trivial⟩ ?_
              refine VO.nil ?_
              show VW _ _ _ _ _ _ _
              refine VW.region ?_
              refine VO.seg T_ok .dp 4 [3, 4] [0] (s' := ⟨[(3, .lf (.ptr 0 0 0 0)), (4, B false)], [bx [.v (.int .i64) (0 : Int), .v .str a0.2.1, .v (.int .i64) (0 : Int), .v (.int .i64) a0.2.2.2.1, .v (.int .i64) (0 : Int), .v .bool a0.2.2.2.2.2.1, .v (.sl (.int .i64)) a0.2.2.2.2.2.2] 37]⟩) (φ := True ∧ True ∧ True ∧ True ∧ True) (by kernel_rfl) ⟨trivial, trivial, trivial, trivial, trivial⟩ ?_
              refine VO.nil ?_
              exact arrive [.ren [3, 4] [0]] (by kernel_rfl) ⟨a0.2.1, (0 : Int), a0.2.2.2.1, (0 : Int), a0.2.2.2.2.2.1, a0.2.2.2.2.2.2, false, rfl, h⟩
          · replace h := cond_f h hb; clear hb
            refine VW.seq ?_
            refine VW.region ?_
            refine VO.seg T_ok .dp 2 [1, 3, 4, 8, 84] [0, 1] (s' := ⟨[(1, .lf (.ptr 0 0 0 0)), (3, .lf (.ptr 1 0 0 0)), (4, B false), (8, I a0.1), (84, B (a0.1 == (5 : Int)))], [bx [.v (.int .i64) a0.1, .v .str a0.2.1, .v (.int .i64) a0.2.2.1, .v (.int .i64) a0.2.2.2.1, .v (.int .i64) a0.2.2.2.2.1, .v .bool a0.2.2.2.2.2.1, .v (.sl (.int .i64)) a0.2.2.2.2.2.2] 37, bx [.v (.int .i64) (0 : Int), .v .str a0.2.1, .v (.int .i64) a0.2.2.1, .v (.int .i64) a0.2.2.2.1, .v (.int .i64) a0.2.2.2.2.1, .v .bool a0.2.2.2.2.2.1, .v (.sl (.int .i64)) a0.2.2.2.2.2.2] 37]⟩) (φ := True ∧ True ∧ True) (by kernel_rfl) ⟨trivial, trivial, trivial⟩ ?_
            refine VO.nil ?_
            show VW _ _ _ _ _ _ _
            refine VW.cond (b := (a0.1 == (5 : Int))) (by kernel_rfl) (fun hb => ?_) (fun hb => ?_)
            · replace h := cond_t h hb; clear hb
              refine VW.seq ?_
              refine VW.region ?_
              refine VO.seg T_ok .dp 2 [3, 87] [1] (s' := ⟨[(3, .lf (.ptr 0 0 0 0)), (87, I a0.2.2.1)], [bx [.v (.int .i64) (0 : Int), .v .str a0.2.1, .v (.int .i64) a0.2.2.1, .v (.int .i64) a0.2.2.2.1, .v (.int .i64) a0.2.2.2.2.1, .v .bool a0.2.2.2.2.2.1, .v (.sl (.int .i64)) a0.2.2.2.2.2.2] 37]⟩) (φ := True ∧ True ∧ True) (by kernel_rfl) ⟨trivial, trivial, trivial⟩ ?_
              obtain ⟨y73, hy, h⟩ := andO_some h
              refine VO.call false [.t (.int .i64)] [] T_ok (d := some 88) (by kernel_rfl) (ok65 N _ hy) rfl ?_
              refine VO.seg T_ok .dp 1 [3, 4] [0] (s' := ⟨[(3, .lf (.ptr 0 0 0 0)), (4, B y73)], [bx [.v (.int .i64) (0 : Int), .v .str a0.2.1, .v (.int .i64) a0.2.2.1, .v (.int .i64) a0.2.2.2.1, .v (.int .i64) a0.2.2.2.2.1, .v .bool a0.2.2.2.2.2.1, .v (.sl (.int .i64)) a0.2.2.2.2.2.2] 37]⟩) (φ := True ∧ True) (by kernel_rfl) ⟨trivial, trivial⟩ ?_
              refine VO.nil ?_
              show VW _ _ _ _ _ _ _
              refine VW.region ?_
              refine VO.seg T_ok .dp 2 [3, 4] [0] (s' := ⟨[(3, .lf (.ptr 0 0 0 0)), (4, B y73)], [bx [.v (.int .i64) (0 : Int), .v .str a0.2.1, .v (.int .i64) (0 : Int), .v (.int .i64) a0.2.2.2.1, .v (.int .i64) a0.2.2.2.2.1, .v .bool a0.2.2.2.2.2.1, .v (.sl (.int .i64)) a0.2.2.2.2.2.2] 37]⟩) (φ := True ∧ True ∧ True) (by kernel_rfl) ⟨trivial, trivial, trivial⟩ ?_
              refine VO.nil ?_
              exact arrive [.ren [3, 4] [0]] (by kernel_rfl) ⟨a0.2.1, (0 : Int), a0.2.2.2.1, a0.2.2.2.2.1, a0.2.2.2.2.2.1, a0.2.2.2.2.2.2, y73, rfl, h⟩
            · replace h := cond_f h hb; clear hb
              refine VW.seq ?_
              refine VW.region ?_
              refine VO.seg T_ok .dp 2 [1, 3, 4, 8, 90] [0, 1] (s' := ⟨[(1, .lf (.ptr 0 0 0 0)), (3, .lf (.ptr 1 0 0 0)), (4, B false), (8, I a0.1), (90, B (a0.1 == (6 : Int)))], [bx [.v (.int .i64) a0.1, .v .str a0.2.1, .v (.int .i64) a0.2.2.1, .v (.int .i64) a0.2.2.2.1, .v (.int .i64) a0.2.2.2.2.1, .v .bool a0.2.2.2.2.2.1, .v (.sl (.int .i64)) a0.2.2.2.2.2.2] 37, bx [.v (.int .i64) (0 : Int), .v .str a0.2.1, .v (.int .i64) a0.2.2.1, .v (.int .i64) a0.2.2.2.1, .v (.int .i64) a0.2.2.2.2.1, .v .bool a0.2.2.2.2.2.1, .v (.sl (.int .i64)) a0.2.2.2.2.2.2] 37]⟩) (φ := True ∧ True ∧ True) (by kernel_rfl) ⟨trivial, trivial, trivial⟩ ?_
              refine VO.nil ?_
              show VW _ _ _ _ _ _ _
              refine VW.cond (b := (a0.1 == (6 : Int))) (by kernel_rfl) (fun hb => ?_) (fun hb => ?_)
              · replace h := cond_t h hb; clear hb
                refine VW.seq ?_
                refine VW.region ?_
                refine VO.seg T_ok .dp 2 [1, 3, 93] [0, 1] (s' := ⟨[(1, .lf (.ptr 0 0 0 0)), (3, .lf (.ptr 1 0 0 0)), (93, I a0.2.2.2.2.1)], [bx [.v (.int .i64) a0.1, .v .str a0.2.1, .v (.int .i64) a0.2.2.1, .v (.int .i64) a0.2.2.2.1, .v (.int .i64) a0.2.2.2.2.1, .v .bool a0.2.2.2.2.2.1, .v (.sl (.int .i64)) a0.2.2.2.2.2.2] 37, bx [.v (.int .i64) (0 : Int), .v .str a0.2.1, .v (.int .i64) a0.2.2.1, .v (.int .i64) a0.2.2.2.1, .v (.int .i64) a0.2.2.2.2.1, .v .bool a0.2.2.2.2.2.1, .v (.sl (.int .i64)) a0.2.2.2.2.2.2] 37]⟩) (φ := True ∧ True ∧ True) (by kernel_rfl) ⟨trivial, trivial, trivial⟩ ?_
                obtain ⟨y74, hy, h⟩ := andO_some h
                refine VO.call false [.t (.int .i64), .t (.int .i64), .t (.int .i64)] [] T_ok (d := some 94) (by kernel_rfl) (ok38 N _ _ _ hy) rfl ?_
                refine VO.seg T_ok .dp 1 [1, 3, 95] [0, 1] (s' := ⟨[(1, .lf (.ptr 0 0 0 0)), (3, .lf (.ptr 1 0 0 0)), (95, B y74)], [bx [.v (.int .i64) a0.1, .v .str a0.2.1, .v (.int .i64) a0.2.2.1, .v (.int .i64) a0.2.2.2.1, .v (.int .i64) a0.2.2.2.2.1, .v .bool a0.2.2.2.2.2.1, .v (.sl (.int .i64)) a0.2.2.2.2.2.2] 37, bx [.v (.int .i64) (0 : Int), .v .str a0.2.1, .v (.int .i64) a0.2.2.1, .v (.int .i64) a0.2.2.2.1, .v (.int .i64) a0.2.2.2.2.1, .v .bool a0.2.2.2.2.2.1, .v (.sl (.int .i64)) a0.2.2.2.2.2.2] 37]⟩) (φ := True ∧ True) (by kernel_rfl) ⟨trivial, trivial⟩ ?_
                refine VO.splitB 95 (b := y74) (by kernel_rfl) (fun hb => ?_) (fun hb => ?_)
                · replace h := cond_t h hb; clear hb
                  refine VO.seg T_ok .dp 4 [1, 3, 95, 99] [0, 1] (s' := ⟨[(1, .lf (.ptr 0 0 0 0)), (3, .lf (.ptr 1 0 0 0)), (95, B true), (99, B (!a0.2.2.2.2.2.1))], [bx [.v (.int .i64) a0.1, .v .str a0.2.1, .v (.int .i64) a0.2.2.1, .v (.int .i64) a0.2.2.2.1, .v (.int .i64) a0.2.2.2.2.1, .v .bool a0.2.2.2.2.2.1, .v (.sl (.int .i64)) a0.2.2.2.2.2.2] 37, bx [.v (.int .i64) (0 : Int), .v .str a0.2.1, .v (.int .i64) a0.2.2.1, .v (.int .i64) a0.2.2.2.1, .v (.int .i64) a0.2.2.2.2.1, .v .bool a0.2.2.2.2.2.1, .v (.sl (.int .i64)) a0.2.2.2.2.2.2] 37]⟩) (φ := True ∧ True ∧ True ∧ True ∧ True) (by kernel_rfl) ⟨trivial, trivial, trivial, trivial, trivial⟩ ?_
                  refine VO.splitB 99 (b := (!a0.2.2.2.2.2.1)) (by kernel_rfl) (fun hb => ?_) (fun hb => ?_)
                  · replace h := cond_t h hb; clear hb
                    refine VO.seg T_ok .dp 6 [3, 4] [1] (s' := ⟨[(3, .lf (.ptr 0 0 0 0)), (4, B true)], [bx [.v (.int .i64) (0 : Int), .v .str a0.2.1, .v (.int .i64) a0.2.2.1, .v (.int .i64) a0.2.2.2.1, .v (.int .i64) a0.2.2.2.2.1, .v .bool a0.2.2.2.2.2.1, .v (.sl (.int .i64)) a0.2.2.2.2.2.2] 37]⟩) (φ := True ∧ True ∧ True ∧ True ∧ True ∧ True ∧ True) (by kernel_rfl) ⟨trivial, trivial, trivial, trivial, trivial, trivial, trivial⟩ ?_
                    refine VO.nil ?_
                    show VW _ _ _ _ _ _ _
                    refine VW.region ?_
                    refine VO.seg T_ok .dp 4 [3, 4] [0] (s' := ⟨[(3, .lf (.ptr 0 0 0 0)), (4, B true)], [bx [.v (.int .i64) (0 : Int), .v .str a0.2.1, .v (.int .i64) a0.2.2.1, .v (.int .i64) a0.2.2.2.1, .v (.int .i64) (0 : Int), .v .bool false, .v (.sl (.int .i64)) a0.2.2.2.2.2.2] 37]⟩) (φ := True ∧ True ∧ True ∧ True ∧ True) (by kernel_rfl) ⟨trivial, trivial, trivial, trivial, trivial⟩ ?_
                    refine VO.nil ?_
                    exact arrive [.ren [3, 4] [0]] (by kernel_rfl) ⟨a0.2.1, a0.2.2.1, a0.2.2.2.1, (0 : Int), false, a0.2.2.2.2.2.2, true, rfl, h⟩
                  · replace h := cond_f h hb; clear hb
                    refine VO.seg T_ok .dp 2 [3, 95, 99, 101] [1] (s' := ⟨[(3, .lf (.ptr 0 0 0 0)), (95, B true), (99, B false), (101, I a0.2.2.2.2.1)], [bx [.v (.int .i64) (0 : Int), .v .str a0.2.1, .v (.int .i64) a0.2.2.1, .v (.int .i64) a0.2.2.2.1, .v (.int .i64) a0.2.2.2.2.1, .v .bool a0.2.2.2.2.2.1, .v (.sl (.int .i64)) a0.2.2.2.2.2.2] 37]⟩) (φ := True ∧ True ∧ True) (by kernel_rfl) ⟨trivial, trivial, trivial⟩ ?_
                    refine VO.on (j := 7) (want := false) (d := 99) (b := false) rfl rfl rfl (by kernel_rfl) rfl ?_
                    obtain ⟨y75, hy, h⟩ := andO_some h
                    refine VO.call false [.t (.int .i64)] [] T_ok (d := some 102) (by kernel_rfl) (ok66 N _ hy) rfl ?_
                    refine VO.seg T_ok .dp 3 [3, 4] [0] (s' := ⟨[(3, .lf (.ptr 0 0 0 0)), (4, B y75)], [bx [.v (.int .i64) (0 : Int), .v .str a0.2.1, .v (.int .i64) a0.2.2.1, .v (.int .i64) a0.2.2.2.1, .v (.int .i64) a0.2.2.2.2.1, .v .bool a0.2.2.2.2.2.1, .v (.sl (.int .i64)) a0.2.2.2.2.2.2] 37]⟩) (φ := True ∧ True ∧ True ∧ True) (by kernel_rfl) ⟨trivial, trivial, trivial, trivial⟩ ?_
                    refine VO.nil ?_
                    show VW _ _ _ _ _ _ _
                    refine VW.region ?_
                    refine VO.seg T_ok .dp 4 [3, 4] [0] (s' := ⟨[(3, .lf (.ptr 0 0 0 0)), (4, B y75)], [bx [.v (.int .i64) (0 : Int), .v .str a0.2.1, .v (.int .i64) a0.2.2.1, .v (.int .i64) a0.2.2.2.1, .v (.int .i64) (0 : Int), .v .bool false, .v (.sl (.int .i64)) a0.2.2.2.2.2.2] 37]⟩) (φ := True ∧ True ∧ True ∧ True ∧ True) (by kernel_rfl) ⟨trivial, trivial, trivial, trivial, trivial⟩ ?_
                    refine VO.nil ?_
                    exact arrive [.ren [3, 4] [0]] (by kernel_rfl) ⟨a0.2.1, a0.2.2.1, a0.2.2.2.1, (0 : Int), false, a0.2.2.2.2.2.2, y75, rfl, h⟩
                · replace h := cond_f h hb; clear hb
                  refine VO.seg T_ok .dp 10 [3, 4] [1] (s' := ⟨[(3, .lf (.ptr 0 0 0 0)), (4, B false)], [bx [.v (.int .i64) (0 : Int), .v .str a0.2.1, .v (.int .i64) a0.2.2.1, .v (.int .i64) a0.2.2.2.1, .v (.int .i64) a0.2.2.2.2.1, .v .bool a0.2.2.2.2.2.1, .v (.sl (.int .i64)) a0.2.2.2.2.2.2] 37]⟩) (φ := True ∧ True ∧ True ∧ True ∧ True ∧ True ∧ True ∧ True ∧ True ∧ True ∧ True) (by kernel_rfl) ⟨trivial, trivial, trivial, trivial, trivial, trivial, trivial, trivial, trivial, trivial, trivial⟩ ?_
                  refine VO.nil ?_
                  show VW _ _ _ _ _ _ _
                  refine VW.region ?_
                  refine VO.seg T_ok .dp 4 [3, 4] [0] (s' := ⟨[(3, .lf (.ptr 0 0 0 0)), (4, B false)], [bx [.v (.int .i64) (0 : Int), .v .str a0.2.1, .v (.int .i64) a0.2.2.1, .v (.int .i64) a0.2.2.2.1, .v (.int .i64) (0 : Int), .v .bool false, .v (.sl (.int .i64)) a0.2.2.2.2.2.2] 37]⟩) (φ := True ∧ True ∧ True ∧ True ∧ True) (by kernel_rfl) ⟨trivial, trivial, trivial, trivial, trivial⟩ ?_
                  refine VO.nil ?_
                  exact arrive [.ren [3, 4] [0]] (by kernel_rfl) ⟨a0.2.1, a0.2.2.1, a0.2.2.2.1, (0 : Int), false, a0.2.2.2.2.2.2, false, rfl, h⟩
              · replace h := cond_f h hb; clear hb
                refine VW.join (fun s => ∃ (x76 : ByteArray) (x77 : Int) (x78 : Int) (x79 : Int) (x80 : Bool) (x81 : (List Int)) (x82 : Bool), s = ⟨[(3, .lf (.ptr 0 0 0 0)), (4, B false), (107, B x82)], [bx [.v (.int .i64) (0 : Int), .v .str x76, .v (.int .i64) x77, .v (.int .i64) x78, .v (.int .i64) x79, .v .bool x80, .v (.sl (.int .i64)) x81] 37]⟩ ∧ F40_j3 N x76 x77 x78 x79 x80 x81 x82 = some r) ?_ ?_
                · refine VW.seq ?_
                  refine VW.region ?_
                  refine VO.seg T_ok .dp 2 [3, 4, 8, 107] [1] (s' := ⟨[(3, .lf (.ptr 0 0 0 0)), (4, B false), (8, I a0.1), (107, B (a0.1 == (4 : Int)))], [bx [.v (.int .i64) (0 : Int), .v .str a0.2.1, .v (.int .i64) a0.2.2.1, .v (.int .i64) a0.2.2.2.1, .v (.int .i64) a0.2.2.2.2.1, .v .bool a0.2.2.2.2.2.1, .v (.sl (.int .i64)) a0.2.2.2.2.2.2] 37]⟩) (φ := True ∧ True ∧ True) (by kernel_rfl) ⟨trivial, trivial, trivial⟩ ?_
                  refine VO.nil ?_
                  show VW _ _ _ _ _ _ _
                  refine VW.cond (b := (a0.1 == (4 : Int))) (by kernel_rfl) (fun hb => ?_) (fun hb => ?_)
                  · replace h := cond_t h hb; clear hb
                    refine VW.skip ?_
                    exact arrive [.ren [3, 4, 107] [0]] (by kernel_rfl) ⟨a0.2.1, a0.2.2.1, a0.2.2.2.1, a0.2.2.2.2.1, a0.2.2.2.2.2.1, a0.2.2.2.2.2.2, (a0.1 == (4 : Int)), rfl, h⟩
                  · replace h := cond_f h hb; clear hb
                    refine VW.region ?_
                    refine VO.seg T_ok .dp 2 [3, 4, 107] [0] (s' := ⟨[(3, .lf (.ptr 0 0 0 0)), (4, B false), (107, B (a0.1 == (7 : Int)))], [bx [.v (.int .i64) (0 : Int), .v .str a0.2.1, .v (.int .i64) a0.2.2.1, .v (.int .i64) a0.2.2.2.1, .v (.int .i64) a0.2.2.2.2.1, .v .bool a0.2.2.2.2.2.1, .v (.sl (.int .i64)) a0.2.2.2.2.2.2] 37]⟩) (φ := True ∧ True ∧ True) (by kernel_rfl) ⟨trivial, trivial, trivial⟩ ?_
                    refine VO.nil ?_
                    exact arrive [.ren [3, 4, 107] [0]] (by kernel_rfl) ⟨a0.2.1, a0.2.2.1, a0.2.2.2.1, a0.2.2.2.2.1, a0.2.2.2.2.2.1, a0.2.2.2.2.2.2, (a0.1 == (7 : Int)), rfl, h⟩
                · rintro s ⟨x76, x77, x78, x79, x80, x81, x82, rfl, h⟩
                  unfold F40_j3 at h
                  refine VW.cond (b := x82) (by kernel_rfl) (fun hb => ?_) (fun hb => ?_)
                  · replace h := cond_t h hb; clear hb
                    refine VW.region ?_
                    refine VO.seg T_ok .dp 1 [3, 4] [0] (s' := ⟨[(3, .lf (.ptr 0 0 0 0)), (4, B true)], [bx [.v (.int .i64) (0 : Int), .v .str x76, .v (.int .i64) x77, .v (.int .i64) x78, .v (.int .i64) x79, .v .bool x80, .v (.sl (.int .i64)) x81] 37]⟩) (φ := True ∧ True) (by kernel_rfl) ⟨trivial, trivial⟩ ?_
                    refine VO.nil ?_
                    exact arrive [.ren [3, 4] [0]] (by kernel_rfl) ⟨x76, x77, x78, x79, x80, x81, true, rfl, h⟩
                  · replace h := cond_f h hb; clear hb
                    refine VW.skip ?_
                    exact arrive [.ren [3, 4] [0]] (by kernel_rfl) ⟨x76, x77, x78, x79, x80, x81, false, rfl, h⟩
  · rintro s ⟨x38, x39, x40, x41, x42, x43, x44, rfl, h⟩
    unfold F40_j0 at h
    refine VW.seq ?_
    refine VW.region ?_
    refine VO.seg T_ok .dp 2 [3, 111] [0] (s' := ⟨[(3, .lf (.ptr 0 0 0 0)), (111, B x44)], [bx [.v (.int .i64) (0 : Int), .v .str x38, .v (.int .i64) x39, .v (.int .i64) x40, .v (.int .i64) x41, .v .bool x42, .v (.sl (.int .i64)) x43] 37]⟩) (φ := True ∧ True ∧ True) (by kernel_rfl) ⟨trivial, trivial, trivial⟩ ?_
    refine VO.splitB 111 (b := x44) (by kernel_rfl) (fun hb => ?_) (fun hb => ?_)
    · replace h := cond_t h hb; clear hb
      refine VO.seg T_ok .dp 2 [111, 112, 113] [] (s' := ⟨[(111, B true), (112, .agg [.v (.int .i64) (0 : Int), .v .str x38, .v (.int .i64) x39, .v (.int .i64) x40, .v (.int .i64) x41, .v .bool x42, .v (.sl (.int .i64)) x43]), (113, .agg [.v (.int .i64) (0 : Int), .v .str ByteArray.empty, .v (.int .i64) (0 : Int), .v (.int .i64) (0 : Int), .v (.int .i64) (0 : Int), .v .bool false, .nil])], []⟩) (φ := True ∧ True ∧ True) (by kernel_rfl) ⟨trivial, trivial, trivial⟩ ?_
      refine VO.on (j := 1) (want := true) (d := 111) (b := true) rfl rfl rfl (by kernel_rfl) rfl ?_
      obtain ⟨y45, hy, h⟩ := andO_some h
      refine VO.call false [.t Y35, .t Y35] [] T_ok (d := some 114) (by kernel_rfl) (ok59 N _ _ hy) rfl ?_
      refine VO.seg T_ok .dp 2 [2] [] (s' := ⟨[(2, B y45)], []⟩) (φ := True ∧ True ∧ True) (by kernel_rfl) ⟨trivial, trivial, trivial⟩ ?_
      refine VO.nil ?_
      show VW _ _ _ _ _ _ _
      refine VW.ret ?_
      replace h := Option.some.inj h
      subst h
      exact retR [] (by kernel_rfl) rfl
    · replace h := cond_f h hb; clear hb
      refine VO.seg T_ok .dp 5 [2] [] (s' := ⟨[(2, B false)], []⟩) (φ := True ∧ True ∧ True ∧ True ∧ True ∧ True) (by kernel_rfl) ⟨trivial, trivial, trivial, trivial, trivial, trivial⟩ ?_
      refine VO.nil ?_
      show VW _ _ _ _ _ _ _
      refine VW.ret ?_
      replace h := Option.some.inj h
      subst h
      exact retR [] (by kernel_rfl) rfl

/- loop.example/g00844/impl.PlanOk$1 -/
def F39 (N : Nat) (a0 : (Int × (ByteArray × (Int × (Int × (Int × (Bool × (List Int)))))))) : Option (Bool) :=
  andO (F40 N a0) fun y1 => some (!y1)
theorem ok39 (N : Nat) (a0 : (Int × (ByteArray × (Int × (Int × (Int × (Bool × (List Int)))))))) {r : Bool} (h : F39 N a0 = some r) : Con Go.Proofs.Try.prog 39 [.agg [.v (.int .i64) a0.1, .v .str a0.2.1, .v (.int .i64) a0.2.2.1, .v (.int .i64) a0.2.2.2.1, .v (.int .i64) a0.2.2.2.2.1, .v .bool a0.2.2.2.2.2.1, .v (.sl (.int .i64)) a0.2.2.2.2.2.2]] [.lf (.v .bool r)] := by
  refine ⟨enters_of Go.Proofs.Try.func39 rfl (by decide), HC.intro [.lf (.v .bool)] T_ok Go.Proofs.Try.func39 rfl (Nat.le_of_ble_eq_true rfl) (Nat.le_of_ble_eq_true rfl) fun w0 E0 => ?_⟩
  unfold F39 at h
  show VW _ _ _ _ _ (retQ _ _ _ _) _
  refine VW.seq ?_
  refine VW.region ?_
  refine VO.seg T_ok .dp 2 [1] [0] (s' := ⟨[(1, .lf (.ptr 0 0 0 0))], [bx [.v (.int .i64) a0.1, .v .str a0.2.1, .v (.int .i64) a0.2.2.1, .v (.int .i64) a0.2.2.2.1, .v (.int .i64) a0.2.2.2.2.1, .v .bool a0.2.2.2.2.2.1, .v (.sl (.int .i64)) a0.2.2.2.2.2.2] 37]⟩) (φ := True ∧ True ∧ True) (by kernel_rfl) ⟨trivial, trivial, trivial⟩ ?_
  refine VO.nil ?_
  show VW _ _ _ _ _ _ _
  refine VW.seq ?_
  refine VW.region ?_
  refine VO.seg T_ok .dp 1 [3] [] (s' := ⟨[(3, .agg [.v (.int .i64) a0.1, .v .str a0.2.1, .v (.int .i64) a0.2.2.1, .v (.int .i64) a0.2.2.2.1, .v (.int .i64) a0.2.2.2.2.1, .v .bool a0.2.2.2.2.2.1, .v (.sl (.int .i64)) a0.2.2.2.2.2.2])], []⟩) (φ := True ∧ True) (by kernel_rfl) ⟨trivial, trivial⟩ ?_
  obtain ⟨y1, hy, h⟩ := andO_some h
  refine VO.call false [.t Y35] [] T_ok (d := some 4) (by kernel_rfl) (ok40 N _ hy) rfl ?_
  refine VO.seg T_ok .dp 2 [2] [] (s' := ⟨[(2, B (!y1))], []⟩) (φ := True ∧ True ∧ True) (by kernel_rfl) ⟨trivial, trivial, trivial⟩ ?_
  refine VO.nil ?_
  show VW _ _ _ _ _ _ _
  refine VW.ret ?_
  replace h := Option.some.inj h
  subst h
  exact retR [] (by kernel_rfl) rfl

/- loop.example/g00844/impl.ArityOf -/
def F70_j0 (N : Nat) (x6 : Bool) : Option (Int) :=
  cond x6 (some (1 : Int)) (some (-1 : Int))
def F70_j1 (N : Nat) (a0 : Int) (x5 : Bool) : Option (Int) :=
  cond x5 (some (2 : Int)) (cond (a0 == (1 : Int)) (F70_j0 N (a0 == (1 : Int))) (cond (a0 == (2 : Int)) (F70_j0 N (a0 == (2 : Int))) (cond (a0 == (5 : Int)) (F70_j0 N (a0 == (5 : Int))) (cond (a0 == (6 : Int)) (F70_j0 N (a0 == (6 : Int))) (F70_j0 N (a0 == (7 : Int)))))))
def F70 (N : Nat) (a0 : Int) : Option (Int) :=
  cond (a0 == (0 : Int)) (some (0 : Int)) (cond (a0 == (3 : Int)) (F70_j1 N a0 (a0 == (3 : Int))) (F70_j1 N a0 (a0 == (4 : Int))))
theorem ok70 (N : Nat) (a0 : Int) {r : Int} (h : F70 N a0 = some r) : Con Go.Proofs.Try.prog 70 [I a0] [.lf (.v (.int .i64) r)] := by
  refine ⟨enters_of Go.Proofs.Try.func70 rfl (by decide), HC.intro [.lf (.v (.int .i64))] T_ok Go.Proofs.Try.func70 rfl (Nat.le_of_ble_eq_true rfl) (Nat.le_of_ble_eq_true rfl) fun w0 E0 => ?_⟩
  unfold F70 at h
  show VW _ _ _ _ _ (retQ _ _ _ _) _
  refine VW.seq ?_
  refine VW.region ?_
  refine VO.seg T_ok .dp 1 [0] [] (s' := ⟨[(0, I a0)], []⟩) (φ := True ∧ True) (by kernel_rfl) ⟨trivial, trivial⟩ ?_
  refine VO.nil ?_
  show VW _ _ _ _ _ _ _
  refine VW.seq ?_
  refine VW.seq ?_
  refine VW.region ?_
  refine VO.seg T_ok .dp 1 [3] [] (s' := ⟨[(3, I a0)], []⟩) (φ := True ∧ True) (by kernel_rfl) ⟨trivial, trivial⟩ ?_
  refine VO.nil ?_
  show VW _ _ _ _ _ _ _
  refine VW.block ?_
  refine VW.seq ?_
  refine VW.region ?_
  refine VO.seg T_ok .dp 2 [3, 4] [] (s' := ⟨[(3, I a0), (4, B (a0 == (0 : Int)))], []⟩) (φ := True ∧ True ∧ True) (by kernel_rfl) ⟨trivial, trivial, trivial⟩ ?_
  refine VO.nil ?_
  show VW _ _ _ _ _ _ _
  refine VW.cond (b := (a0 == (0 : Int))) (by kernel_rfl) (fun hb => ?_) (fun hb => ?_)
  · replace h := cond_t h hb; clear hb
    refine VW.seq ?_
    refine VW.region ?_
    refine VO.seg T_ok .dp 1 [2] [] (s' := ⟨[(2, I (0 : Int))], []⟩) (φ := True ∧ True) (by kernel_rfl) ⟨trivial, trivial⟩ ?_
    refine VO.nil ?_
    show VW _ _ _ _ _ _ _
    refine VW.ret ?_
    replace h := Option.some.inj h
    subst h
    exact retR [] (by kernel_rfl) rfl
  · replace h := cond_f h hb; clear hb
    refine VW.join (fun s => ∃ (x5 : Bool), s = ⟨[(3, I a0), (6, B x5)], []⟩ ∧ F70_j1 N a0 x5 = some r) ?_ ?_
    · refine VW.seq ?_
      refine VW.region ?_
      refine VO.seg T_ok .dp 2 [3, 6] [] (s' := ⟨[(3, I a0), (6, B (a0 == (3 : Int)))], []⟩) (φ := True ∧ True ∧ True) (by kernel_rfl) ⟨trivial, trivial, trivial⟩ ?_
      refine VO.nil ?_
      show VW _ _ _ _ _ _ _
      refine VW.cond (b := (a0 == (3 : Int))) (by kernel_rfl) (fun hb => ?_) (fun hb => ?_)
      · replace h := cond_t h hb; clear hb
        refine VW.skip ?_
        exact arrive [.ren [3, 6] []] (by kernel_rfl) ⟨(a0 == (3 : Int)), rfl, h⟩
      · replace h := cond_f h hb; clear hb
        refine VW.region ?_
        refine VO.seg T_ok .dp 2 [3, 6] [] (s' := ⟨[(3, I a0), (6, B (a0 == (4 : Int)))], []⟩) (φ := True ∧ True ∧ True) (by kernel_rfl) ⟨trivial, trivial, trivial⟩ ?_
        refine VO.nil ?_
        exact arrive [.ren [3, 6] []] (by kernel_rfl) ⟨(a0 == (4 : Int)), rfl, h⟩
    · rintro s ⟨x5, rfl, h⟩
      unfold F70_j1 at h
      refine VW.cond (b := x5) (by kernel_rfl) (fun hb => ?_) (fun hb => ?_)
      · replace h := cond_t h hb; clear hb
        refine VW.seq ?_
        refine VW.region ?_
        refine VO.seg T_ok .dp 1 [2] [] (s' := ⟨[(2, I (2 : Int))], []⟩) (φ := True ∧ True) (by kernel_rfl) ⟨trivial, trivial⟩ ?_
        refine VO.nil ?_
        show VW _ _ _ _ _ _ _
        refine VW.ret ?_
        replace h := Option.some.inj h
        subst h
        exact retR [] (by kernel_rfl) rfl
      · replace h := cond_f h hb; clear hb
        refine VW.join (fun s => ∃ (x6 : Bool), s = ⟨[(9, B x6)], []⟩ ∧ F70_j0 N x6 = some r) ?_ ?_
        · refine VW.seq ?_
          refine VW.region ?_
          refine VO.seg T_ok .dp 2 [3, 9] [] (s' := ⟨[(3, I a0), (9, B (a0 == (1 : Int)))], []⟩) (φ := True ∧ True ∧ True) (by kernel_rfl) ⟨trivial, trivial, trivial⟩ ?_
          refine VO.nil ?_
          show VW _ _ _ _ _ _ _
          refine VW.cond (b := (a0 == (1 : Int))) (by kernel_rfl) (fun hb => ?_) (fun hb => ?_)
          · replace h := cond_t h hb; clear hb
            refine VW.skip ?_
            exact arrive [.ren [9] []] (by kernel_rfl) ⟨(a0 == (1 : Int)), rfl, h⟩
          · replace h := cond_f h hb; clear hb
            refine VW.seq ?_
            refine VW.region ?_
            refine VO.seg T_ok .dp 2 [3, 9] [] (s' := ⟨[(3, I a0), (9, B (a0 == (2 : Int)))], []⟩) (φ := True ∧ True ∧ True) (by kernel_rfl) ⟨trivial, trivial, trivial⟩ ?_
            refine VO.nil ?_
            show VW _ _ _ _ _ _ _
            refine VW.cond (b := (a0 == (2 : Int))) (by kernel_rfl) (fun hb => ?_) (fun hb => ?_)
            · replace h := cond_t h hb; clear hb
              refine VW.skip ?_
              exact arrive [.ren [9] []] (by kernel_rfl) ⟨(a0 == (2 : Int)), rfl, h⟩
            · replace h := cond_f h hb; clear hb
              refine VW.seq ?_
              refine VW.region ?_
              refine VO.seg T_ok .dp 2 [3, 9] [] (s' := ⟨[(3, I a0), (9, B (a0 == (5 : Int)))], []⟩) (φ := True ∧ True ∧ True) (by kernel_rfl) ⟨trivial, trivial, trivial⟩ ?_
              refine VO.nil ?_
              show VW _ _ _ _ _ _ _
              refine VW.cond (b := (a0 == (5 : Int))) (by kernel_rfl) (fun hb => ?_) (fun hb => ?_)
              · replace h := cond_t h hb; clear hb
                refine VW.skip ?_
                exact arrive [.ren [9] []] (by kernel_rfl) ⟨(a0 == (5 : Int)), rfl, h⟩
              · replace h := cond_f h hb; clear hb
                refine VW.seq ?_
                refine VW.region ?_
                refine VO.seg T_ok .dp 2 [3, 9] [] (s' := ⟨[(3, I a0), (9, B (a0 == (6 : Int)))], []⟩) (φ := True ∧ True ∧ True) (by kernel_rfl) ⟨trivial, trivial, trivial⟩ ?_
                refine VO.nil ?_
                show VW _ _ _ _ _ _ _
                refine VW.cond (b := (a0 == (6 : Int))) (by kernel_rfl) (fun hb => ?_) (fun hb => ?_)
                · replace h := cond_t h hb; clear hb
                  refine VW.skip ?_
                  exact arrive [.ren [9] []] (by kernel_rfl) ⟨(a0 == (6 : Int)), rfl, h⟩
                · replace h := cond_f h hb; clear hb
                  refine VW.region ?_
                  refine VO.seg T_ok .dp 2 [9] [] (s' := ⟨[(9, B (a0 == (7 : Int)))], []⟩) (φ := True ∧ True ∧ True) (by kernel_rfl) ⟨trivial, trivial, trivial⟩ ?_
                  refine VO.nil ?_
                  exact arrive [.ren [9] []] (by kernel_rfl) ⟨(a0 == (7 : Int)), rfl, h⟩
        · rintro s ⟨x6, rfl, h⟩
          unfold F70_j0 at h
          refine VW.cond (b := x6) (by kernel_rfl) (fun hb => ?_) (fun hb => ?_)
          · replace h := cond_t h hb; clear hb
            refine VW.seq ?_
            refine VW.region ?_
            refine VO.seg T_ok .dp 1 [2] [] (s' := ⟨[(2, I (1 : Int))], []⟩) (φ := True ∧ True) (by kernel_rfl) ⟨trivial, trivial⟩ ?_
            refine VO.nil ?_
            show VW _ _ _ _ _ _ _
            refine VW.ret ?_
            replace h := Option.some.inj h
            subst h
            exact retR [] (by kernel_rfl) rfl
          · replace h := cond_f h hb; clear hb
            refine VW.skip ?_
            show VW _ _ _ _ _ _ _
            refine VW.seq ?_
            refine VW.region ?_
            refine VO.seg T_ok .dp 1 [2] [] (s' := ⟨[(2, I (-1 : Int))], []⟩) (φ := True ∧ True) (by kernel_rfl) ⟨trivial, trivial⟩ ?_
            refine VO.nil ?_
            show VW _ _ _ _ _ _ _
            refine VW.ret ?_
            replace h := Option.some.inj h
            subst h
            exact retR [] (by kernel_rfl) rfl

/- loop.example/g00844/impl.end -/
def F41_j0 (N : Nat) (x13 : Int) : Option (Int) :=
  some x13
def F41_l0_b (N : Nat) (a0 : (List (Int × (ByteArray × (Int × (Int × (Int × (Bool × (List Int))))))))) (a2 : Int) (self : (List (Int × (ByteArray × (Int × (Int × (Int × (Bool × (List Int)))))))) → Int → Int → Option (Int)) (y16 : Int) (nx24 : Int → Int → Option (Int)) (x20 : Int) (x21 : Int) : Option (Int) :=
  cond (decide (x21 < y16)) (andO (self a0 x20 (IntKind.i64.wrap (a2 + (1 : Int)))) fun y26 => cond (decide (y26 < (0 : Int))) (some (-1 : Int)) (nx24 y26 (IntKind.i64.wrap (x21 + (1 : Int))))) (F41_j0 N x20)
def F41_l0 (N : Nat) (a0 : (List (Int × (ByteArray × (Int × (Int × (Int × (Bool × (List Int))))))))) (a2 : Int) (self : (List (Int × (ByteArray × (Int × (Int × (Int × (Bool × (List Int)))))))) → Int → Int → Option (Int)) (y16 : Int) : Nat → Int → Int → Option (Int) := loopF (F41_l0_b N a0 a2 self y16) (fun _ _ => none)
theorem F41_l0_s (N : Nat) (a0 : (List (Int × (ByteArray × (Int × (Int × (Int × (Bool × (List Int))))))))) (a2 : Int) (self : (List (Int × (ByteArray × (Int × (Int × (Int × (Bool × (List Int)))))))) → Int → Int → Option (Int)) (y16 : Int) {k : Nat} (hk : 0 < k) (x20 : Int) (x21 : Int) : F41_l0 N a0 a2 self y16 k x20 x21 = F41_l0_b N a0 a2 self y16 (F41_l0 N a0 a2 self y16 (k - 1)) x20 x21 := by
  cases k with
  | zero => exact absurd hk (Nat.lt_irrefl 0)
  | succ m => rfl
def F41_b (N : Nat) (self : (List (Int × (ByteArray × (Int × (Int × (Int × (Bool × (List Int)))))))) → Int → Int → Option (Int)) (a0 : (List (Int × (ByteArray × (Int × (Int × (Int × (Bool × (List Int))))))))) (a1 : Int) (a2 : Int) : Option (Int) :=
  cond (decide (a1 ≥ (a0.length : Int))) (some (-1 : Int)) (cond (decide (a2 > (10 : Int))) (some (-1 : Int)) (gd (InR a1 a0.length) (andO (F70 N ((a0.getD a1.toNat (Ty.dflt Y35)).1)) fun y16 => F41_l0 N a0 a2 self y16 N (IntKind.i64.wrap (a1 + (1 : Int))) (0 : Int))))
theorem ok41_b (N : Nat) (self : (List (Int × (ByteArray × (Int × (Int × (Int × (Bool × (List Int)))))))) → Int → Int → Option (Int)) (ih : ∀ (a0 : (List (Int × (ByteArray × (Int × (Int × (Int × (Bool × (List Int))))))))) (a1 : Int) (a2 : Int) (r : Int), self a0 a1 a2 = some r → Con Go.Proofs.Try.prog 41 [.lf (.v (.sl Y35) a0), I a1, I a2] [.lf (.v (.int .i64) r)]) (a0 : (List (Int × (ByteArray × (Int × (Int × (Int × (Bool × (List Int))))))))) (a1 : Int) (a2 : Int) {r : Int} (h : F41_b N self a0 a1 a2 = some r) : Con Go.Proofs.Try.prog 41 [.lf (.v (.sl Y35) a0), I a1, I a2] [.lf (.v (.int .i64) r)] := by
  refine ⟨enters_of Go.Proofs.Try.func41 rfl (by decide), HC.intro [.lf (.v (.int .i64))] T_ok Go.Proofs.Try.func41 rfl (Nat.le_of_ble_eq_true rfl) (Nat.le_of_ble_eq_true rfl) fun w0 E0 => ?_⟩
  unfold F41_b at h
  show VW _ _ _ _ _ (retQ _ _ _ _) _
  refine VW.seq ?_
  refine VW.region ?_
  refine VO.seg T_ok .dp 1 [0, 1, 2] [] (s' := ⟨[(0, .lf (.v (.sl Y35) a0)), (1, I a1), (2, I a2)], []⟩) (φ := True ∧ True) (by kernel_rfl) ⟨trivial, trivial⟩ ?_
  refine VO.nil ?_
  show VW _ _ _ _ _ _ _
  refine VW.seq ?_
  refine VW.seq ?_
  refine VW.region ?_
  refine VO.seg T_ok .dp 5 [0, 1, 2, 12] [] (s' := ⟨[(0, .lf (.v (.sl Y35) a0)), (1, I a1), (2, I a2), (12, B (decide (a1 ≥ (a0.length : Int))))], []⟩) (φ := True ∧ True ∧ True ∧ True ∧ True ∧ True) (by kernel_rfl) ⟨trivial, trivial, trivial, trivial, trivial, trivial⟩ ?_
  refine VO.splitB 12 (b := (decide (a1 ≥ (a0.length : Int)))) (by kernel_rfl) (fun hb => ?_) (fun hb => ?_)
  · replace h := cond_t h hb; clear hb
    refine VO.seg T_ok .dp 3 [0, 1, 2, 15] [] (s' := ⟨[(0, .lf (.v (.sl Y35) a0)), (1, I a1), (2, I a2), (15, B true)], []⟩) (φ := True ∧ True ∧ True ∧ True) (by kernel_rfl) ⟨trivial, trivial, trivial, trivial⟩ ?_
    refine VO.nil ?_
    show VW _ _ _ _ _ _ _
    refine VW.cond (b := true) (by kernel_rfl) (fun _ => ?_) (fun h' => nomatch h')
    refine VW.seq ?_
    refine VW.region ?_
    refine VO.seg T_ok .dp 1 [6] [] (s' := ⟨[(6, I (-1 : Int))], []⟩) (φ := True ∧ True) (by kernel_rfl) ⟨trivial, trivial⟩ ?_
    refine VO.nil ?_
    show VW _ _ _ _ _ _ _
    refine VW.ret ?_
    replace h := Option.some.inj h
    subst h
    exact retR [] (by kernel_rfl) rfl
  · replace h := cond_f h hb; clear hb
    refine VO.seg T_ok .dp 3 [0, 1, 2, 15] [] (s' := ⟨[(0, .lf (.v (.sl Y35) a0)), (1, I a1), (2, I a2), (15, B (decide (a2 > (10 : Int))))], []⟩) (φ := True ∧ True ∧ True ∧ True) (by kernel_rfl) ⟨trivial, trivial, trivial, trivial⟩ ?_
    refine VO.nil ?_
    show VW _ _ _ _ _ _ _
    refine VW.cond (b := (decide (a2 > (10 : Int)))) (by kernel_rfl) (fun hb => ?_) (fun hb => ?_)
    · replace h := cond_t h hb; clear hb
      refine VW.seq ?_
      refine VW.region ?_
      refine VO.seg T_ok .dp 1 [6] [] (s' := ⟨[(6, I (-1 : Int))], []⟩) (φ := True ∧ True) (by kernel_rfl) ⟨trivial, trivial⟩ ?_
      refine VO.nil ?_
      show VW _ _ _ _ _ _ _
      refine VW.ret ?_
      replace h := Option.some.inj h
      subst h
      exact retR [] (by kernel_rfl) rfl
    · replace h := cond_f h hb; clear hb
      refine VW.skip ?_
      show VW _ _ _ _ _ _ _
      refine VW.seq ?_
      refine VW.region ?_
      refine VO.seg T_ok .dp 3 [0, 1, 2, 7] [] (s' := ⟨[(0, .lf (.v (.sl Y35) a0)), (1, I a1), (2, I a2), (7, I (IntKind.i64.wrap (a1 + (1 : Int))))], []⟩) (φ := True ∧ True ∧ True ∧ True) (by kernel_rfl) ⟨trivial, trivial, trivial, trivial⟩ ?_
      refine VO.nil ?_
      show VW _ _ _ _ _ _ _
      refine VW.join (fun s => ∃ (x13 : Int), s = ⟨[(7, I x13)], []⟩ ∧ F41_j0 N x13 = some r) ?_ ?_
      · refine VW.seq ?_
        refine VW.region ?_
        obtain ⟨g15, h⟩ := gd_some h
        refine VO.seg T_ok .dp 5 [0, 2, 7, 22] [] (s' := ⟨[(0, .lf (.v (.sl Y35) a0)), (2, I a2), (7, I (IntKind.i64.wrap (a1 + (1 : Int)))), (22, I ((a0.getD a1.toNat (Ty.dflt Y35)).1))], []⟩) (φ := True ∧ True ∧ (InR a1 a0.length) ∧ True ∧ True ∧ True) (by kernel_rfl) ⟨trivial, trivial, g15, trivial, trivial, trivial⟩ ?_
        obtain ⟨y16, hy, h⟩ := andO_some h
        refine VO.call false [.t (.int .i64)] [] T_ok (d := some 23) (by kernel_rfl) (ok70 N _ hy) rfl ?_
        refine VO.seg T_ok .dp 1 [0, 2, 7, 23, 24] [] (s' := ⟨[(0, .lf (.v (.sl Y35) a0)), (2, I a2), (7, I (IntKind.i64.wrap (a1 + (1 : Int)))), (23, I y16), (24, I (0 : Int))], []⟩) (φ := True ∧ True) (by kernel_rfl) ⟨trivial, trivial⟩ ?_
        refine VO.nil ?_
        show VW _ _ _ _ _ _ _
        refine VW.block ?_
        refine VW.loopL (fun k s => ∃ (x20 : Int) (x21 : Int), s = ⟨[(0, .lf (.v (.sl Y35) a0)), (2, I a2), (7, I x20), (23, I y16), (24, I x21)], []⟩ ∧ F41_l0 N a0 a2 self y16 k x20 x21 = some r) N [.ren [0, 2, 7, 23, 24] []] (by kernel_rfl) ⟨(IntKind.i64.wrap (a1 + (1 : Int))), (0 : Int), rfl, h⟩ ?_
        rintro k24 s ⟨x20, x21, rfl, h⟩
        cases k24 with
        | zero => exact nomatch (show (none : Option (Int)) = some r from h)
        | succ k24 =>
          replace h : F41_l0_b N a0 a2 self y16 (F41_l0 N a0 a2 self y16 k24) x20 x21 = some r := h
          unfold F41_l0_b at h
          refine VW.seq ?_
          refine VW.region ?_
          refine VO.seg T_ok .dp 1 [0, 2, 7, 23, 24, 25] [] (s' := ⟨[(0, .lf (.v (.sl Y35) a0)), (2, I a2), (7, I x20), (23, I y16), (24, I x21), (25, B (decide (x21 < y16)))], []⟩) (φ := True ∧ True) (by kernel_rfl) ⟨trivial, trivial⟩ ?_
          refine VO.nil ?_
          show VW _ _ _ _ _ _ _
          refine VW.seq ?_
          refine VW.cond (b := (decide (x21 < y16))) (by kernel_rfl) (fun hb => ?_) (fun hb => ?_)
          · replace h := cond_t h hb; clear hb
            refine VW.skip ?_
            show VW _ _ _ _ _ _ _
            refine VW.seq ?_
            refine VW.block ?_
            refine VW.seq ?_
            refine VW.region ?_
            refine VO.seg T_ok .dp 4 [0, 2, 23, 24, 26, 27, 29] [] (s' := ⟨[(0, .lf (.v (.sl Y35) a0)), (2, I a2), (23, I y16), (24, I x21), (26, .lf (.v (.sl Y35) a0)), (27, I x20), (29, I (IntKind.i64.wrap (a2 + (1 : Int))))], []⟩) (φ := True ∧ True ∧ True ∧ True ∧ True) (by kernel_rfl) ⟨trivial, trivial, trivial, trivial, trivial⟩ ?_
            obtain ⟨y26, hy, h⟩ := andO_some h
            refine VO.call false [.t (.sl Y35), .t (.int .i64), .t (.int .i64)] [] T_ok (d := some 30) (by kernel_rfl) (ih _ _ _ _ hy) rfl ?_
            refine VO.seg T_ok .dp 1 [0, 2, 7, 23, 24] [] (s' := ⟨[(0, .lf (.v (.sl Y35) a0)), (2, I a2), (7, I y26), (23, I y16), (24, I x21)], []⟩) (φ := True ∧ True) (by kernel_rfl) ⟨trivial, trivial⟩ ?_
            refine VO.nil ?_
            show VW _ _ _ _ _ _ _
            refine VW.seq ?_
            refine VW.region ?_
            refine VO.seg T_ok .dp 2 [0, 2, 7, 23, 24, 32] [] (s' := ⟨[(0, .lf (.v (.sl Y35) a0)), (2, I a2), (7, I y26), (23, I y16), (24, I x21), (32, B (decide (y26 < (0 : Int))))], []⟩) (φ := True ∧ True ∧ True) (by kernel_rfl) ⟨trivial, trivial, trivial⟩ ?_
            refine VO.nil ?_
            show VW _ _ _ _ _ _ _
            refine VW.cond (b := (decide (y26 < (0 : Int)))) (by kernel_rfl) (fun hb => ?_) (fun hb => ?_)
            · replace h := cond_t h hb; clear hb
              refine VW.seq ?_
              refine VW.region ?_
              refine VO.seg T_ok .dp 1 [6] [] (s' := ⟨[(6, I (-1 : Int))], []⟩) (φ := True ∧ True) (by kernel_rfl) ⟨trivial, trivial⟩ ?_
              refine VO.nil ?_
              show VW _ _ _ _ _ _ _
              refine VW.ret ?_
              replace h := Option.some.inj h
              subst h
              exact retR [] (by kernel_rfl) rfl
            · replace h := cond_f h hb; clear hb
              refine VW.skip ?_
              show VW _ _ _ _ _ _ _
              refine VW.region ?_
              refine VO.seg T_ok .dp 2 [0, 2, 7, 23, 24] [] (s' := ⟨[(0, .lf (.v (.sl Y35) a0)), (2, I a2), (7, I y26), (23, I y16), (24, I (IntKind.i64.wrap (x21 + (1 : Int))))], []⟩) (φ := True ∧ True ∧ True) (by kernel_rfl) ⟨trivial, trivial, trivial⟩ ?_
              refine VO.nil ?_
              exact around [.ren [0, 2, 7, 23, 24] []] (by kernel_rfl) ⟨y26, (IntKind.i64.wrap (x21 + (1 : Int))), rfl, h⟩
          · replace h := cond_f h hb; clear hb
            refine VW.exit ?_
            exact arrive [.ren [7] []] (by kernel_rfl) ⟨x20, rfl, h⟩
      · rintro s ⟨x13, rfl, h⟩
        unfold F41_j0 at h
        refine VW.seq ?_
        refine VW.region ?_
        refine VO.seg T_ok .dp 2 [6] [] (s' := ⟨[(6, I x13)], []⟩) (φ := True ∧ True ∧ True) (by kernel_rfl) ⟨trivial, trivial, trivial⟩ ?_
        refine VO.nil ?_
        show VW _ _ _ _ _ _ _
        refine VW.ret ?_
        replace h := Option.some.inj h
        subst h
        exact retR [] (by kernel_rfl) rfl
def F41_r (N : Nat) : Nat → (List (Int × (ByteArray × (Int × (Int × (Int × (Bool × (List Int)))))))) → Int → Int → Option (Int) := loopF (F41_b N) (fun _ _ _ => none)
theorem F41_s (N : Nat) {k : Nat} (hk : 0 < k) (a0 : (List (Int × (ByteArray × (Int × (Int × (Int × (Bool × (List Int))))))))) (a1 : Int) (a2 : Int) : F41_r N k a0 a1 a2 = F41_b N (F41_r N (k - 1)) a0 a1 a2 := by
  cases k with
  | zero => exact absurd hk (Nat.lt_irrefl 0)
  | succ m => rfl
def F41 (N : Nat) : (List (Int × (ByteArray × (Int × (Int × (Int × (Bool × (List Int)))))))) → Int → Int → Option (Int) := F41_r N N
theorem ok41_k (N : Nat) : ∀ (k : Nat) (a0 : (List (Int × (ByteArray × (Int × (Int × (Int × (Bool × (List Int))))))))) (a1 : Int) (a2 : Int) (r : Int), loopF (F41_b N) (fun _ _ _ => none) k a0 a1 a2 = some r → Con Go.Proofs.Try.prog 41 [.lf (.v (.sl Y35) a0), I a1, I a2] [.lf (.v (.int .i64) r)]
  | 0, a0, a1, a2, r, h => nomatch (show (none : Option (Int)) = some r from h)
  | k + 1, a0, a1, a2, r, h => ok41_b N _ (ok41_k N k) a0 a1 a2 h
theorem ok41 (N : Nat) (a0 : (List (Int × (ByteArray × (Int × (Int × (Int × (Bool × (List Int))))))))) (a1 : Int) (a2 : Int) {r : Int} (h : F41 N a0 a1 a2 = some r) : Con Go.Proofs.Try.prog 41 [.lf (.v (.sl Y35) a0), I a1, I a2] [.lf (.v (.int .i64) r)] := ok41_k N N a0 a1 a2 r h

/- loop.example/g00844/impl.PlanOk -/
def F21 (N : Nat) (a0 : (List (Int × (ByteArray × (Int × (Int × (Int × (Bool × (List Int))))))))) : Option (Bool) :=
  andO (F38 N (a0.length : Int) (1 : Int) (40 : Int)) fun y3 => cond (!y3) (some false) (andO (F22 N a0 (fun z0 => F39 N z0)) fun y4 => cond y4 (some false) (andO (F41 N a0 (0 : Int) (1 : Int)) fun y5 => some (y5 == (a0.length : Int))))
theorem ok21 (N : Nat) (a0 : (List (Int × (ByteArray × (Int × (Int × (Int × (Bool × (List Int))))))))) {r : Bool} (h : F21 N a0 = some r) : Con Go.Proofs.Try.prog 21 [.lf (.v (.sl Y35) a0)] [.lf (.v .bool r)] := by
  refine ⟨enters_of Go.Proofs.Try.func21 rfl (by decide), HC.intro [.lf (.v .bool)] T_ok Go.Proofs.Try.func21 rfl (Nat.le_of_ble_eq_true rfl) (Nat.le_of_ble_eq_true rfl) fun w0 E0 => ?_⟩
  unfold F21 at h
  show VW _ _ _ _ _ (retQ _ _ _ _) _
  refine VW.seq ?_
  refine VW.region ?_
  refine VO.seg T_ok .dp 1 [0] [] (s' := ⟨[(0, .lf (.v (.sl Y35) a0))], []⟩) (φ := True ∧ True) (by kernel_rfl) ⟨trivial, trivial⟩ ?_
  refine VO.nil ?_
  show VW _ _ _ _ _ _ _
  refine VW.seq ?_
  refine VW.seq ?_
  refine VW.region ?_
  refine VO.seg T_ok .dp 2 [0, 4] [] (s' := ⟨[(0, .lf (.v (.sl Y35) a0)), (4, I (a0.length : Int))], []⟩) (φ := True ∧ True ∧ True) (by kernel_rfl) ⟨trivial, trivial, trivial⟩ ?_
  obtain ⟨y3, hy, h⟩ := andO_some h
  refine VO.call false [.t (.int .i64), .t (.int .i64), .t (.int .i64)] [] T_ok (d := some 5) (by kernel_rfl) (ok38 N _ _ _ hy) rfl ?_
  refine VO.seg T_ok .dp 2 [0, 7] [] (s' := ⟨[(0, .lf (.v (.sl Y35) a0)), (7, B (!y3))], []⟩) (φ := True ∧ True ∧ True) (by kernel_rfl) ⟨trivial, trivial, trivial⟩ ?_
  refine VO.splitB 7 (b := (!y3)) (by kernel_rfl) (fun hb => ?_) (fun hb => ?_)
  · replace h := cond_t h hb; clear hb
    refine VO.seg T_ok .dp 3 [0, 10] [] (s' := ⟨[(0, .lf (.v (.sl Y35) a0)), (10, B true)], []⟩) (φ := True ∧ True ∧ True ∧ True) (by kernel_rfl) ⟨trivial, trivial, trivial, trivial⟩ ?_
    refine VO.nil ?_
    show VW _ _ _ _ _ _ _
    refine VW.cond (b := true) (by kernel_rfl) (fun _ => ?_) (fun h' => nomatch h')
    refine VW.seq ?_
    refine VW.region ?_
    refine VO.seg T_ok .dp 1 [2] [] (s' := ⟨[(2, B false)], []⟩) (φ := True ∧ True) (by kernel_rfl) ⟨trivial, trivial⟩ ?_
    refine VO.nil ?_
    show VW _ _ _ _ _ _ _
    refine VW.ret ?_
    replace h := Option.some.inj h
    subst h
    exact retR [] (by kernel_rfl) rfl
  · replace h := cond_f h hb; clear hb
    refine VO.seg T_ok .dp 1 [0, 7, 8] [] (s' := ⟨[(0, .lf (.v (.sl Y35) a0)), (7, B false), (8, .lf (.v (.sl Y35) a0))], []⟩) (φ := True ∧ True) (by kernel_rfl) ⟨trivial, trivial⟩ ?_
    refine VO.on (j := 4) (want := false) (d := 7) (b := false) rfl rfl rfl (by kernel_rfl) rfl ?_
    obtain ⟨y4, hy, h⟩ := andO_some h
    refine VO.call false [.t (.sl Y35), .clo []] [] T_ok (d := some 9) (by kernel_rfl) (ok22 N _ 39  (fun z0 => F39 N z0 ) (fun z0 _ hz => ok39 N z0 hz) hy) rfl ?_
    refine VO.seg T_ok .dp 1 [0, 10] [] (s' := ⟨[(0, .lf (.v (.sl Y35) a0)), (10, B y4)], []⟩) (φ := True ∧ True) (by kernel_rfl) ⟨trivial, trivial⟩ ?_
    refine VO.nil ?_
    show VW _ _ _ _ _ _ _
    refine VW.cond (b := y4) (by kernel_rfl) (fun hb => ?_) (fun hb => ?_)
    · replace h := cond_t h hb; clear hb
      refine VW.seq ?_
      refine VW.region ?_
      refine VO.seg T_ok .dp 1 [2] [] (s' := ⟨[(2, B false)], []⟩) (φ := True ∧ True) (by kernel_rfl) ⟨trivial, trivial⟩ ?_
      refine VO.nil ?_
      show VW _ _ _ _ _ _ _
      refine VW.ret ?_
      replace h := Option.some.inj h
      subst h
      exact retR [] (by kernel_rfl) rfl
    · replace h := cond_f h hb; clear hb
      refine VW.skip ?_
      show VW _ _ _ _ _ _ _
      refine VW.seq ?_
      refine VW.region ?_
      refine VO.seg T_ok .dp 1 [0, 11] [] (s' := ⟨[(0, .lf (.v (.sl Y35) a0)), (11, .lf (.v (.sl Y35) a0))], []⟩) (φ := True ∧ True) (by kernel_rfl) ⟨trivial, trivial⟩ ?_
      obtain ⟨y5, hy, h⟩ := andO_some h
      refine VO.call false [.t (.sl Y35), .t (.int .i64), .t (.int .i64)] [] T_ok (d := some 12) (by kernel_rfl) (ok41 N _ _ _ hy) rfl ?_
      refine VO.seg T_ok .dp 4 [2] [] (s' := ⟨[(2, B (y5 == (a0.length : Int)))], []⟩) (φ := True ∧ True ∧ True ∧ True ∧ True) (by kernel_rfl) ⟨trivial, trivial, trivial, trivial, trivial⟩ ?_
      refine VO.nil ?_
      show VW _ _ _ _ _ _ _
      refine VW.ret ?_
      replace h := Option.some.inj h
      subst h
      exact retR [] (by kernel_rfl) rfl

/- loop.example/g00844/laws.eqIntS -/
def F43_j0 (N : Nat) : Option (Bool) :=
  some true
def F43_l0_b (N : Nat) (a0 : (List Int)) (a1 : (List Int)) (nx25 : Int → Option (Bool)) (x20 : Int) : Option (Bool) :=
  cond (decide (x20 < (a0.length : Int))) (gd (InR x20 a0.length) (gd (InR x20 a1.length) (cond ((a0.getD x20.toNat (Ty.dflt (.int .i64))) != (a1.getD x20.toNat (Ty.dflt (.int .i64)))) (some false) (nx25 (IntKind.i64.wrap (x20 + (1 : Int))))))) (F43_j0 N)
def F43_l0 (N : Nat) (a0 : (List Int)) (a1 : (List Int)) : Nat → Int → Option (Bool) := loopF (F43_l0_b N a0 a1) (fun _ => none)
theorem F43_l0_s (N : Nat) (a0 : (List Int)) (a1 : (List Int)) {k : Nat} (hk : 0 < k) (x20 : Int) : F43_l0 N a0 a1 k x20 = F43_l0_b N a0 a1 (F43_l0 N a0 a1 (k - 1)) x20 := by
  cases k with
  | zero => exact absurd hk (Nat.lt_irrefl 0)
  | succ m => rfl
def F43 (N : Nat) (a0 : (List Int)) (a1 : (List Int)) : Option (Bool) :=
  cond ((a0.length : Int) != (a1.length : Int)) (some false) (F43_l0 N a0 a1 N (0 : Int))
theorem ok43 (N : Nat) (a0 : (List Int)) (a1 : (List Int)) {r : Bool} (h : F43 N a0 a1 = some r) : Con Go.Proofs.Try.prog 43 [.lf (.v (.sl (.int .i64)) a0), .lf (.v (.sl (.int .i64)) a1)] [.lf (.v .bool r)] := by
  refine ⟨enters_of Go.Proofs.Try.func43 rfl (by decide), HC.intro [.lf (.v .bool)] T_ok Go.Proofs.Try.func43 rfl (Nat.le_of_ble_eq_true rfl) (Nat.le_of_ble_eq_true rfl) fun w0 E0 => ?_⟩
  unfold F43 at h
  show VW _ _ _ _ _ (retQ _ _ _ _) _
  refine VW.seq ?_
  refine VW.region ?_
  refine VO.seg T_ok .dp 1 [0, 1] [] (s' := ⟨[(0, .lf (.v (.sl (.int .i64)) a0)), (1, .lf (.v (.sl (.int .i64)) a1))], []⟩) (φ := True ∧ True) (by kernel_rfl) ⟨trivial, trivial⟩ ?_
  refine VO.nil ?_
  show VW _ _ _ _ _ _ _
  refine VW.seq ?_
  refine VW.seq ?_
  refine VW.region ?_
  refine VO.seg T_ok .dp 5 [0, 1, 10] [] (s' := ⟨[(0, .lf (.v (.sl (.int .i64)) a0)), (1, .lf (.v (.sl (.int .i64)) a1)), (10, B ((a0.length : Int) != (a1.length : Int)))], []⟩) (φ := True ∧ True ∧ True ∧ True ∧ True ∧ True) (by kernel_rfl) ⟨trivial, trivial, trivial, trivial, trivial, trivial⟩ ?_
  refine VO.nil ?_
  show VW _ _ _ _ _ _ _
  refine VW.cond (b := ((a0.length : Int) != (a1.length : Int))) (by kernel_rfl) (fun hb => ?_) (fun hb => ?_)
  · replace h := cond_t h hb; clear hb
    refine VW.seq ?_
    refine VW.region ?_
    refine VO.seg T_ok .dp 1 [4] [] (s' := ⟨[(4, B false)], []⟩) (φ := True ∧ True) (by kernel_rfl) ⟨trivial, trivial⟩ ?_
    refine VO.nil ?_
    show VW _ _ _ _ _ _ _
    refine VW.ret ?_
    replace h := Option.some.inj h
    subst h
    exact retR [] (by kernel_rfl) rfl
  · replace h := cond_f h hb; clear hb
    refine VW.skip ?_
    show VW _ _ _ _ _ _ _
    refine VW.join (fun s => s = ⟨[], []⟩ ∧ F43_j0 N = some r) ?_ ?_
    · refine VW.seq ?_
      refine VW.region ?_
      refine VO.seg T_ok .dp 1 [0, 1, 5] [] (s' := ⟨[(0, .lf (.v (.sl (.int .i64)) a0)), (1, .lf (.v (.sl (.int .i64)) a1)), (5, I (0 : Int))], []⟩) (φ := True ∧ True) (by kernel_rfl) ⟨trivial, trivial⟩ ?_
      refine VO.nil ?_
      show VW _ _ _ _ _ _ _
      refine VW.block ?_
      refine VW.loopL (fun k s => ∃ (x20 : Int), s = ⟨[(0, .lf (.v (.sl (.int .i64)) a0)), (1, .lf (.v (.sl (.int .i64)) a1)), (5, I x20)], []⟩ ∧ F43_l0 N a0 a1 k x20 = some r) N [.ren [0, 1, 5] []] (by kernel_rfl) ⟨(0 : Int), rfl, h⟩ ?_
      rintro k25 s ⟨x20, rfl, h⟩
      cases k25 with
      | zero => exact nomatch (show (none : Option (Bool)) = some r from h)
      | succ k25 =>
        replace h : F43_l0_b N a0 a1 (F43_l0 N a0 a1 k25) x20 = some r := h
        unfold F43_l0_b at h
        refine VW.seq ?_
        refine VW.seq ?_
        refine VW.region ?_
        refine VO.seg T_ok .dp 4 [0, 1, 5, 14] [] (s' := ⟨[(0, .lf (.v (.sl (.int .i64)) a0)), (1, .lf (.v (.sl (.int .i64)) a1)), (5, I x20), (14, B (decide (x20 < (a0.length : Int))))], []⟩) (φ := True ∧ True ∧ True ∧ True ∧ True) (by kernel_rfl) ⟨trivial, trivial, trivial, trivial, trivial⟩ ?_
        refine VO.nil ?_
        show VW _ _ _ _ _ _ _
        refine VW.cond (b := (decide (x20 < (a0.length : Int)))) (by kernel_rfl) (fun hb => ?_) (fun hb => ?_)
        · replace h := cond_t h hb; clear hb
          refine VW.skip ?_
          show VW _ _ _ _ _ _ _
          refine VW.seq ?_
          refine VW.block ?_
          refine VW.seq ?_
          obtain ⟨g28, h⟩ := gd_some h
          obtain ⟨g29, h⟩ := gd_some h
          refine VW.drawn (by kernel_rfl) [some (17, .lf (.v (.sl (.int .i64)) a0)), some (18, I x20), some (19, .lf (.fp (.int .i64) (a0.getD x20.toNat (Ty.dflt (.int .i64))) 0)), some (20, I (a0.getD x20.toNat (Ty.dflt (.int .i64)))), some (21, .lf (.v (.sl (.int .i64)) a1)), some (22, I x20), some (23, .lf (.fp (.int .i64) (a1.getD x20.toNat (Ty.dflt (.int .i64))) 0)), some (24, I (a1.getD x20.toNat (Ty.dflt (.int .i64)))), some (25, B ((a0.getD x20.toNat (Ty.dflt (.int .i64))) != (a1.getD x20.toNat (Ty.dflt (.int .i64)))))] [] [[]] [(0, 0), (1, 0), (2, 0), (3, 0), (4, 0), (5, 0), (6, 0), (7, 0), (8, 0)] [0, 1, 5, 25] [] (s' := ⟨[(0, .lf (.v (.sl (.int .i64)) a0)), (1, .lf (.v (.sl (.int .i64)) a1)), (5, I x20), (25, B ((a0.getD x20.toNat (Ty.dflt (.int .i64))) != (a1.getD x20.toNat (Ty.dflt (.int .i64)))))], []⟩) (by kernel_rfl) (by kernel_rfl) ⟨⟨_, rfl, Stp.ev T_ok (m := .dp) (φ := True) (by kernel_rfl) trivial⟩,
    ⟨_, rfl, Stp.ev T_ok (m := .dp) (φ := True) (by kernel_rfl) trivial⟩,
    ⟨_, rfl, Stp.ev T_ok (m := .dp) (φ := InR x20 a0.length) (by kernel_rfl) g28⟩,
    ⟨_, rfl, Stp.ev T_ok (m := .dp) (φ := True) (by kernel_rfl) trivial⟩,
    ⟨_, rfl, Stp.ev T_ok (m := .dp) (φ := True) (by kernel_rfl) trivial⟩,
    ⟨_, rfl, Stp.ev T_ok (m := .dp) (φ := True) (by kernel_rfl) trivial⟩,
    ⟨_, rfl, Stp.ev T_ok (m := .dp) (φ := InR x20 a1.length) (by kernel_rfl) g29⟩,
    ⟨_, rfl, Stp.ev T_ok (m := .dp) (φ := True) (by kernel_rfl) trivial⟩,
    ⟨_, rfl, Stp.ev T_ok (m := .dp) (φ := True) (by kernel_rfl) trivial⟩, trivial⟩ (by kernel_rfl) ?_
          show VW _ _ _ _ _ _ _
          refine VW.cond (b := ((a0.getD x20.toNat (Ty.dflt (.int .i64))) != (a1.getD x20.toNat (Ty.dflt (.int .i64))))) (by kernel_rfl) (fun hb => ?_) (fun hb => ?_)
          · replace h := cond_t h hb; clear hb
            refine VW.seq ?_
            refine VW.region ?_
            refine VO.seg T_ok .dp 1 [4] [] (s' := ⟨[(4, B false)], []⟩) (φ := True ∧ True) (by kernel_rfl) ⟨trivial, trivial⟩ ?_
            refine VO.nil ?_
            show VW _ _ _ _ _ _ _
            refine VW.ret ?_
            replace h := Option.some.inj h
            subst h
            exact retR [] (by kernel_rfl) rfl
          · replace h := cond_f h hb; clear hb
            refine VW.skip ?_
            show VW _ _ _ _ _ _ _
            refine VW.region ?_
            refine VO.seg T_ok .dp 3 [0, 1, 5] [] (s' := ⟨[(0, .lf (.v (.sl (.int .i64)) a0)), (1, .lf (.v (.sl (.int .i64)) a1)), (5, I (IntKind.i64.wrap (x20 + (1 : Int))))], []⟩) (φ := True ∧ True ∧ True ∧ True) (by kernel_rfl) ⟨trivial, trivial, trivial, trivial⟩ ?_
            refine VO.nil ?_
            exact around [.ren [0, 1, 5] []] (by kernel_rfl) ⟨(IntKind.i64.wrap (x20 + (1 : Int))), rfl, h⟩
        · replace h := cond_f h hb; clear hb
          refine VW.exit ?_
          exact arrive [.ren [] []] (by kernel_rfl) ⟨rfl, h⟩
    · rintro s ⟨rfl, h⟩
      unfold F43_j0 at h
      refine VW.seq ?_
      refine VW.region ?_
      refine VO.seg T_ok .dp 1 [4] [] (s' := ⟨[(4, B true)], []⟩) (φ := True ∧ True) (by kernel_rfl) ⟨trivial, trivial⟩ ?_
      refine VO.nil ?_
      show VW _ _ _ _ _ _ _
      refine VW.ret ?_
      replace h := Option.some.inj h
      subst h
      exact retR [] (by kernel_rfl) rfl

/- loop.example/g00844/laws.eqNode -/
def F24 (N : Nat) (a0 : (Int × (ByteArray × (Int × (Int × (Int × (Bool × (List Int)))))))) (a1 : (Int × (ByteArray × (Int × (Int × (Int × (Bool × (List Int)))))))) : Option (Bool) :=
  cond (a0.1 != a1.1) (some false) (cond (!(a0.2.1.toList == a1.2.1.toList)) (some false) (cond (a0.2.2.1 != a1.2.2.1) (some false) (cond (a0.2.2.2.1 != a1.2.2.2.1) (some false) (cond (a0.2.2.2.2.1 != a1.2.2.2.2.1) (some false) (cond (!(a0.2.2.2.2.2.1 == a1.2.2.2.2.2.1)) (some false) (andO (F43 N a0.2.2.2.2.2.2 a1.2.2.2.2.2.2) fun y2 => cond (!y2) (some false) (some true)))))))
theorem ok24 (N : Nat) (a0 : (Int × (ByteArray × (Int × (Int × (Int × (Bool × (List Int)))))))) (a1 : (Int × (ByteArray × (Int × (Int × (Int × (Bool × (List Int)))))))) {r : Bool} (h : F24 N a0 a1 = some r) : Con Go.Proofs.Try.prog 24 [.agg [.v (.int .i64) a0.1, .v .str a0.2.1, .v (.int .i64) a0.2.2.1, .v (.int .i64) a0.2.2.2.1, .v (.int .i64) a0.2.2.2.2.1, .v .bool a0.2.2.2.2.2.1, .v (.sl (.int .i64)) a0.2.2.2.2.2.2], .agg [.v (.int .i64) a1.1, .v .str a1.2.1, .v (.int .i64) a1.2.2.1, .v (.int .i64) a1.2.2.2.1, .v (.int .i64) a1.2.2.2.2.1, .v .bool a1.2.2.2.2.2.1, .v (.sl (.int .i64)) a1.2.2.2.2.2.2]] [.lf (.v .bool r)] := by
  refine ⟨enters_of Go.Proofs.Try.func24 rfl (by decide), HC.intro [.lf (.v .bool)] T_ok Go.Proofs.Try.func24 rfl (Nat.le_of_ble_eq_true rfl) (Nat.le_of_ble_eq_true rfl) fun w0 E0 => ?_⟩
  unfold F24 at h
  show VW _ _ _ _ _ (retQ _ _ _ _) _
  refine VW.seq ?_
  refine VW.region ?_
  refine VO.seg T_ok .dp 3 [2, 3] [0, 1] (s' := ⟨[(2, .lf (.ptr 0 0 0 0)), (3, .lf (.ptr 1 0 0 0))], [bx [.v (.int .i64) a0.1, .v .str a0.2.1, .v (.int .i64) a0.2.2.1, .v (.int .i64) a0.2.2.2.1, .v (.int .i64) a0.2.2.2.2.1, .v .bool a0.2.2.2.2.2.1, .v (.sl (.int .i64)) a0.2.2.2.2.2.2] 37, bx [.v (.int .i64) a1.1, .v .str a1.2.1, .v (.int .i64) a1.2.2.1, .v (.int .i64) a1.2.2.2.1, .v (.int .i64) a1.2.2.2.2.1, .v .bool a1.2.2.2.2.2.1, .v (.sl (.int .i64)) a1.2.2.2.2.2.2] 37]⟩) (φ := True ∧ True ∧ True ∧ True) (by kernel_rfl) ⟨trivial, trivial, trivial, trivial⟩ ?_
  refine VO.nil ?_
  show VW _ _ _ _ _ _ _
  refine VW.seq ?_
  refine VW.seq ?_
  refine VW.region ?_
  refine VO.seg T_ok .dp 5 [2, 3, 9] [0, 1] (s' := ⟨[(2, .lf (.ptr 0 0 0 0)), (3, .lf (.ptr 1 0 0 0)), (9, B (a0.1 != a1.1))], [bx [.v (.int .i64) a0.1, .v .str a0.2.1, .v (.int .i64) a0.2.2.1, .v (.int .i64) a0.2.2.2.1, .v (.int .i64) a0.2.2.2.2.1, .v .bool a0.2.2.2.2.2.1, .v (.sl (.int .i64)) a0.2.2.2.2.2.2] 37, bx [.v (.int .i64) a1.1, .v .str a1.2.1, .v (.int .i64) a1.2.2.1, .v (.int .i64) a1.2.2.2.1, .v (.int .i64) a1.2.2.2.2.1, .v .bool a1.2.2.2.2.2.1, .v (.sl (.int .i64)) a1.2.2.2.2.2.2] 37]⟩) (φ := True ∧ True ∧ True ∧ True ∧ True ∧ True) (by kernel_rfl) ⟨trivial, trivial, trivial, trivial, trivial, trivial⟩ ?_
  refine VO.nil ?_
  show VW _ _ _ _ _ _ _
  refine VW.cond (b := (a0.1 != a1.1)) (by kernel_rfl) (fun hb => ?_) (fun hb => ?_)
  · replace h := cond_t h hb; clear hb
    refine VW.seq ?_
    refine VW.region ?_
    refine VO.seg T_ok .dp 1 [4] [] (s' := ⟨[(4, B false)], []⟩) (φ := True ∧ True) (by kernel_rfl) ⟨trivial, trivial⟩ ?_
    refine VO.nil ?_
    show VW _ _ _ _ _ _ _
    refine VW.ret ?_
    replace h := Option.some.inj h
    subst h
    exact retR [] (by kernel_rfl) rfl
  · replace h := cond_f h hb; clear hb
    refine VW.skip ?_
    show VW _ _ _ _ _ _ _
    refine VW.seq ?_
    refine VW.seq ?_
    refine VW.region ?_
    refine VO.seg T_ok .dp 5 [2, 3, 14] [0, 1] (s' := ⟨[(2, .lf (.ptr 0 0 0 0)), (3, .lf (.ptr 1 0 0 0)), (14, B (!(a0.2.1.toList == a1.2.1.toList)))], [bx [.v (.int .i64) a0.1, .v .str a0.2.1, .v (.int .i64) a0.2.2.1, .v (.int .i64) a0.2.2.2.1, .v (.int .i64) a0.2.2.2.2.1, .v .bool a0.2.2.2.2.2.1, .v (.sl (.int .i64)) a0.2.2.2.2.2.2] 37, bx [.v (.int .i64) a1.1, .v .str a1.2.1, .v (.int .i64) a1.2.2.1, .v (.int .i64) a1.2.2.2.1, .v (.int .i64) a1.2.2.2.2.1, .v .bool a1.2.2.2.2.2.1, .v (.sl (.int .i64)) a1.2.2.2.2.2.2] 37]⟩) (φ := True ∧ True ∧ True ∧ True ∧ True ∧ True) (by kernel_rfl) ⟨trivial, trivial, trivial, trivial, trivial, trivial⟩ ?_
    refine VO.nil ?_
    show VW _ _ _ _ _ _ _
    refine VW.cond (b := (!(a0.2.1.toList == a1.2.1.toList))) (by kernel_rfl) (fun hb => ?_) (fun hb => ?_)
    · replace h := cond_t h hb; clear hb
      refine VW.seq ?_
      refine VW.region ?_
      refine VO.seg T_ok .dp 1 [4] [] (s' := ⟨[(4, B false)], []⟩) (φ := True ∧ True) (by kernel_rfl) ⟨trivial, trivial⟩ ?_
      refine VO.nil ?_
      show VW _ _ _ _ _ _ _
      refine VW.ret ?_
      replace h := Option.some.inj h
      subst h
      exact retR [] (by kernel_rfl) rfl
    · replace h := cond_f h hb; clear hb
      refine VW.skip ?_
      show VW _ _ _ _ _ _ _
      refine VW.seq ?_
      refine VW.seq ?_
      refine VW.region ?_
      refine VO.seg T_ok .dp 5 [2, 3, 19] [0, 1] (s' := ⟨[(2, .lf (.ptr 0 0 0 0)), (3, .lf (.ptr 1 0 0 0)), (19, B (a0.2.2.1 != a1.2.2.1))], [bx [.v (.int .i64) a0.1, .v .str a0.2.1, .v (.int .i64) a0.2.2.1, .v (.int .i64) a0.2.2.2.1, .v (.int .i64) a0.2.2.2.2.1, .v .bool a0.2.2.2.2.2.1, .v (.sl (.int .i64)) a0.2.2.2.2.2.2] 37, bx [.v (.int .i64) a1.1, .v .str a1.2.1, .v (.int .i64) a1.2.2.1, .v (.int .i64) a1.2.2.2.1, .v (.int .i64) a1.2.2.2.2.1, .v .bool a1.2.2.2.2.2.1, .v (.sl (.int .i64)) a1.2.2.2.2.2.2] 37]⟩) (φ := True ∧ True ∧ True ∧ True ∧ True ∧ True) (by kernel_rfl) ⟨trivial, trivial, trivial, trivial, trivial, trivial⟩ ?_
      refine VO.nil ?_
      show VW _ _ _ _ _ _ _
      refine VW.cond (b := (a0.2.2.1 != a1.2.2.1)) (by kernel_rfl) (fun hb => ?_) (fun hb => ?_)
      · replace h := cond_t h hb; clear hb
        refine VW.seq ?_
        refine VW.region ?_
        refine VO.seg T_ok .dp 1 [4] [] (s' := ⟨[(4, B false)], []⟩) (φ := True ∧ True) (by kernel_rfl) ⟨trivial, trivial⟩ ?_
        refine VO.nil ?_
        show VW _ _ _ _ _ _ _
        refine VW.ret ?_
        replace h := Option.some.inj h
        subst h
        exact retR [] (by kernel_rfl) rfl
      · replace h := cond_f h hb; clear hb
        refine VW.skip ?_
        show VW _ _ _ _ _ _ _
        refine VW.seq ?_
        refine VW.seq ?_
        refine VW.region ?_
        refine VO.seg T_ok .dp 5 [2, 3, 24] [0, 1] (s' := ⟨[(2, .lf (.ptr 0 0 0 0)), (3, .lf (.ptr 1 0 0 0)), (24, B (a0.2.2.2.1 != a1.2.2.2.1))], [bx [.v (.int .i64) a0.1, .v .str a0.2.1, .v (.int .i64) a0.2.2.1, .v (.int .i64) a0.2.2.2.1, .v (.int .i64) a0.2.2.2.2.1, .v .bool a0.2.2.2.2.2.1, .v (.sl (.int .i64)) a0.2.2.2.2.2.2] 37, bx [.v (.int .i64) a1.1, .v .str a1.2.1, .v (.int .i64) a1.2.2.1, .v (.int .i64) a1.2.2.2.1, .v (.int .i64) a1.2.2.2.2.1, .v .bool a1.2.2.2.2.2.1, .v (.sl (.int .i64)) a1.2.2.2.2.2.2] 37]⟩) (φ := True ∧ True ∧ True ∧ True ∧ True ∧ True) (by kernel_rfl) ⟨trivial, trivial, trivial, trivial, trivial, trivial⟩ ?_
        refine VO.nil ?_
        show VW _ _ _ _ _ _ _
        refine VW.cond (b := (a0.2.2.2.1 != a1.2.2.2.1)) (by kernel_rfl) (fun hb => ?_) (fun hb => ?_)
        · replace h := cond_t h hb; clear hb
          refine VW.seq ?_
          refine VW.region ?_
          refine VO.seg T_ok .dp 1 [4] [] (s' := ⟨[(4, B false)], []⟩) (φ := True ∧ True) (by kernel_rfl) ⟨trivial, trivial⟩ ?_
          refine VO.nil ?_
          show VW _ _ _ _ _ _ _
          refine VW.ret ?_
          replace h := Option.some.inj h
          subst h
          exact retR [] (by kernel_rfl) rfl
        · replace h := cond_f h hb; clear hb
          refine VW.skip ?_
          show VW _ _ _ _ _ _ _
          refine VW.seq ?_
          refine VW.seq ?_
          refine VW.region ?_
          refine VO.seg T_ok .dp 5 [2, 3, 29] [0, 1] (s' := ⟨[(2, .lf (.ptr 0 0 0 0)), (3, .lf (.ptr 1 0 0 0)), (29, B (a0.2.2.2.2.1 != a1.2.2.2.2.1))], [bx [.v (.int .i64) a0.1, .v .str a0.2.1, .v (.int .i64) a0.2.2.1, .v (.int .i64) a0.2.2.2.1, .v (.int .i64) a0.2.2.2.2.1, .v .bool a0.2.2.2.2.2.1, .v (.sl (.int .i64)) a0.2.2.2.2.2.2] 37, bx [.v (.int .i64) a1.1, .v .str a1.2.1, .v (.int .i64) a1.2.2.1, .v (.int .i64) a1.2.2.2.1, .v (.int .i64) a1.2.2.2.2.1, .v .bool a1.2.2.2.2.2.1, .v (.sl (.int .i64)) a1.2.2.2.2.2.2] 37]⟩) (φ := True ∧ True ∧ True ∧ True ∧ True ∧ True) (by kernel_rfl) ⟨trivial, trivial, trivial, trivial, trivial, trivial⟩ ?_
          refine VO.nil ?_
          show VW _ _ _ _ _ _ _
          refine VW.cond (b := (a0.2.2.2.2.1 != a1.2.2.2.2.1)) (by kernel_rfl) (fun hb => ?_) (fun hb => ?_)
          · replace h := cond_t h hb; clear hb
            refine VW.seq ?_
            refine VW.region ?_
            refine VO.seg T_ok .dp 1 [4] [] (s' := ⟨[(4, B false)], []⟩) (φ := True ∧ True) (by kernel_rfl) ⟨trivial, trivial⟩ ?_
            refine VO.nil ?_
            show VW _ _ _ _ _ _ _
            refine VW.ret ?_
            replace h := Option.some.inj h
            subst h
            exact retR [] (by kernel_rfl) rfl
          · replace h := cond_f h hb; clear hb
            refine VW.skip ?_
            show VW _ _ _ _ _ _ _
            refine VW.seq ?_
            refine VW.seq ?_
            refine VW.region ?_
            refine VO.seg T_ok .dp 5 [2, 3, 34] [0, 1] (s' := ⟨[(2, .lf (.ptr 0 0 0 0)), (3, .lf (.ptr 1 0 0 0)), (34, B (!(a0.2.2.2.2.2.1 == a1.2.2.2.2.2.1)))], [bx [.v (.int .i64) a0.1, .v .str a0.2.1, .v (.int .i64) a0.2.2.1, .v (.int .i64) a0.2.2.2.1, .v (.int .i64) a0.2.2.2.2.1, .v .bool a0.2.2.2.2.2.1, .v (.sl (.int .i64)) a0.2.2.2.2.2.2] 37, bx [.v (.int .i64) a1.1, .v .str a1.2.1, .v (.int .i64) a1.2.2.1, .v (.int .i64) a1.2.2.2.1, .v (.int .i64) a1.2.2.2.2.1, .v .bool a1.2.2.2.2.2.1, .v (.sl (.int .i64)) a1.2.2.2.2.2.2] 37]⟩) (φ := True ∧ True ∧ True ∧ True ∧ True ∧ True) (by kernel_rfl) ⟨trivial, trivial, trivial, trivial, trivial, trivial⟩ ?_
            refine VO.nil ?_
            show VW _ _ _ _ _ _ _
            refine VW.cond (b := (!(a0.2.2.2.2.2.1 == a1.2.2.2.2.2.1))) (by kernel_rfl) (fun hb => ?_) (fun hb => ?_)
            · replace h := cond_t h hb; clear hb
              refine VW.seq ?_
              refine VW.region ?_
              refine VO.seg T_ok .dp 1 [4] [] (s' := ⟨[(4, B false)], []⟩) (φ := True ∧ True) (by kernel_rfl) ⟨trivial, trivial⟩ ?_
              refine VO.nil ?_
              show VW _ _ _ _ _ _ _
              refine VW.ret ?_
              replace h := Option.some.inj h
              subst h
              exact retR [] (by kernel_rfl) rfl
            · replace h := cond_f h hb; clear hb
              refine VW.skip ?_
              show VW _ _ _ _ _ _ _
              refine VW.seq ?_
              refine VW.seq ?_
              refine VW.region ?_
              refine VO.seg T_ok .dp 4 [36, 38] [] (s' := ⟨[(36, .lf (.v (.sl (.int .i64)) a0.2.2.2.2.2.2)), (38, .lf (.v (.sl (.int .i64)) a1.2.2.2.2.2.2))], []⟩) (φ := True ∧ True ∧ True ∧ True ∧ True) (by kernel_rfl) ⟨trivial, trivial, trivial, trivial, trivial⟩ ?_
              obtain ⟨y2, hy, h⟩ := andO_some h
              refine VO.call false [.t (.sl (.int .i64)), .t (.sl (.int .i64))] [] T_ok (d := some 39) (by kernel_rfl) (ok43 N _ _ hy) rfl ?_
              refine VO.seg T_ok .dp 1 [40] [] (s' := ⟨[(40, B (!y2))], []⟩) (φ := True ∧ True) (by kernel_rfl) ⟨trivial, trivial⟩ ?_
              refine VO.nil ?_
              show VW _ _ _ _ _ _ _
              refine VW.cond (b := (!y2)) (by kernel_rfl) (fun hb => ?_) (fun hb => ?_)
              · replace h := cond_t h hb; clear hb
                refine VW.seq ?_
                refine VW.region ?_
                refine VO.seg T_ok .dp 1 [4] [] (s' := ⟨[(4, B false)], []⟩) (φ := True ∧ True) (by kernel_rfl) ⟨trivial, trivial⟩ ?_
                refine VO.nil ?_
                show VW _ _ _ _ _ _ _
                refine VW.ret ?_
                replace h := Option.some.inj h
                subst h
                exact retR [] (by kernel_rfl) rfl
              · replace h := cond_f h hb; clear hb
                refine VW.skip ?_
                show VW _ _ _ _ _ _ _
                refine VW.seq ?_
                refine VW.region ?_
                refine VO.seg T_ok .dp 1 [4] [] (s' := ⟨[(4, B true)], []⟩) (φ := True ∧ True) (by kernel_rfl) ⟨trivial, trivial⟩ ?_
                refine VO.nil ?_
                show VW _ _ _ _ _ _ _
                refine VW.ret ?_
                replace h := Option.some.inj h
                subst h
                exact retR [] (by kernel_rfl) rfl

/- loop.example/g00844/laws.eqNodeS -/
def F11_j0 (N : Nat) : Option (Bool) :=
  some true
def F11_l0_b (N : Nat) (a0 : (List (Int × (ByteArray × (Int × (Int × (Int × (Bool × (List Int))))))))) (a1 : (List (Int × (ByteArray × (Int × (Int × (Int × (Bool × (List Int))))))))) (nx35 : Int → Option (Bool)) (x28 : Int) : Option (Bool) :=
  cond (decide (x28 < (a0.length : Int))) (gd (InR x28 a0.length) (gd (InR x28 a1.length) (andO (F24 N (a0.getD x28.toNat (Ty.dflt Y35)) (a1.getD x28.toNat (Ty.dflt Y35))) fun y41 => cond (!y41) (some false) (nx35 (IntKind.i64.wrap (x28 + (1 : Int))))))) (F11_j0 N)
def F11_l0 (N : Nat) (a0 : (List (Int × (ByteArray × (Int × (Int × (Int × (Bool × (List Int))))))))) (a1 : (List (Int × (ByteArray × (Int × (Int × (Int × (Bool × (List Int))))))))) : Nat → Int → Option (Bool) := loopF (F11_l0_b N a0 a1) (fun _ => none)
theorem F11_l0_s (N : Nat) (a0 : (List (Int × (ByteArray × (Int × (Int × (Int × (Bool × (List Int))))))))) (a1 : (List (Int × (ByteArray × (Int × (Int × (Int × (Bool × (List Int))))))))) {k : Nat} (hk : 0 < k) (x28 : Int) : F11_l0 N a0 a1 k x28 = F11_l0_b N a0 a1 (F11_l0 N a0 a1 (k - 1)) x28 := by
  cases k with
  | zero => exact absurd hk (Nat.lt_irrefl 0)
  | succ m => rfl
def F11 (N : Nat) (a0 : (List (Int × (ByteArray × (Int × (Int × (Int × (Bool × (List Int))))))))) (a1 : (List (Int × (ByteArray × (Int × (Int × (Int × (Bool × (List Int))))))))) : Option (Bool) :=
  cond ((a0.length : Int) != (a1.length : Int)) (some false) (F11_l0 N a0 a1 N (0 : Int))
theorem ok11 (N : Nat) (a0 : (List (Int × (ByteArray × (Int × (Int × (Int × (Bool × (List Int))))))))) (a1 : (List (Int × (ByteArray × (Int × (Int × (Int × (Bool × (List Int))))))))) {r : Bool} (h : F11 N a0 a1 = some r) : Con Go.Proofs.Try.prog 11 [.lf (.v (.sl Y35) a0), .lf (.v (.sl Y35) a1)] [.lf (.v .bool r)] := by
  refine ⟨enters_of Go.Proofs.Try.func11 rfl (by decide), HC.intro [.lf (.v .bool)] T_ok Go.Proofs.Try.func11 rfl (Nat.le_of_ble_eq_true rfl) (Nat.le_of_ble_eq_true rfl) fun w0 E0 => ?_⟩
  unfold F11 at h
  show VW _ _ _ _ _ (retQ _ _ _ _) _
  refine VW.seq ?_
  refine VW.region ?_
  refine VO.seg T_ok .dp 1 [0, 1] [] (s' := ⟨[(0, .lf (.v (.sl Y35) a0)), (1, .lf (.v (.sl Y35) a1))], []⟩) (φ := True ∧ True) (by kernel_rfl) ⟨trivial, trivial⟩ ?_
  refine VO.nil ?_
  show VW _ _ _ _ _ _ _
  refine VW.seq ?_
  refine VW.seq ?_
  refine VW.region ?_
  refine VO.seg T_ok .dp 5 [0, 1, 10] [] (s' := ⟨[(0, .lf (.v (.sl Y35) a0)), (1, .lf (.v (.sl Y35) a1)), (10, B ((a0.length : Int) != (a1.length : Int)))], []⟩) (φ := True ∧ True ∧ True ∧ True ∧ True ∧ True) (by kernel_rfl) ⟨trivial, trivial, trivial, trivial, trivial, trivial⟩ ?_
  refine VO.nil ?_
  show VW _ _ _ _ _ _ _
  refine VW.cond (b := ((a0.length : Int) != (a1.length : Int))) (by kernel_rfl) (fun hb => ?_) (fun hb => ?_)
  · replace h := cond_t h hb; clear hb
    refine VW.seq ?_
    refine VW.region ?_
    refine VO.seg T_ok .dp 1 [4] [] (s' := ⟨[(4, B false)], []⟩) (φ := True ∧ True) (by kernel_rfl) ⟨trivial, trivial⟩ ?_
    refine VO.nil ?_
    show VW _ _ _ _ _ _ _
    refine VW.ret ?_
    replace h := Option.some.inj h
    subst h
    exact retR [] (by kernel_rfl) rfl
  · replace h := cond_f h hb; clear hb
    refine VW.skip ?_
    show VW _ _ _ _ _ _ _
    refine VW.join (fun s => s = ⟨[], []⟩ ∧ F11_j0 N = some r) ?_ ?_
    · refine VW.seq ?_
      refine VW.region ?_
      refine VO.seg T_ok .dp 1 [0, 1, 5] [] (s' := ⟨[(0, .lf (.v (.sl Y35) a0)), (1, .lf (.v (.sl Y35) a1)), (5, I (0 : Int))], []⟩) (φ := True ∧ True) (by kernel_rfl) ⟨trivial, trivial⟩ ?_
      refine VO.nil ?_
      show VW _ _ _ _ _ _ _
      refine VW.block ?_
      refine VW.loopL (fun k s => ∃ (x28 : Int), s = ⟨[(0, .lf (.v (.sl Y35) a0)), (1, .lf (.v (.sl Y35) a1)), (5, I x28)], []⟩ ∧ F11_l0 N a0 a1 k x28 = some r) N [.ren [0, 1, 5] []] (by kernel_rfl) ⟨(0 : Int), rfl, h⟩ ?_
      rintro k35 s ⟨x28, rfl, h⟩
      cases k35 with
      | zero => exact nomatch (show (none : Option (Bool)) = some r from h)
      | succ k35 =>
        replace h : F11_l0_b N a0 a1 (F11_l0 N a0 a1 k35) x28 = some r := h
        unfold F11_l0_b at h
        refine VW.seq ?_
        refine VW.seq ?_
        refine VW.region ?_
        refine VO.seg T_ok .dp 4 [0, 1, 5, 14] [] (s' := ⟨[(0, .lf (.v (.sl Y35) a0)), (1, .lf (.v (.sl Y35) a1)), (5, I x28), (14, B (decide (x28 < (a0.length : Int))))], []⟩) (φ := True ∧ True ∧ True ∧ True ∧ True) (by kernel_rfl) ⟨trivial, trivial, trivial, trivial, trivial⟩ ?_
        refine VO.nil ?_
        show VW _ _ _ _ _ _ _
        refine VW.cond (b := (decide (x28 < (a0.length : Int)))) (by kernel_rfl) (fun hb => ?_) (fun hb => ?_)
        · replace h := cond_t h hb; clear hb
          refine VW.skip ?_
          show VW _ _ _ _ _ _ _
          refine VW.seq ?_
          refine VW.block ?_
          refine VW.seq ?_
          obtain ⟨g39, h⟩ := gd_some h
          obtain ⟨g40, h⟩ := gd_some h
          obtain ⟨y41, hy41, h⟩ := andO_some h
          refine VW.drawn (by kernel_rfl) [some (17, .lf (.v (.sl Y35) a0)), some (18, I x28), some (19, .lf (.fp Y35 (a0.getD x28.toNat (Ty.dflt Y35)) 0)), some (20, .agg [.v (.int .i64) ((a0.getD x28.toNat (Ty.dflt Y35)).1), .v .str ((a0.getD x28.toNat (Ty.dflt Y35)).2.1), .v (.int .i64) ((a0.getD x28.toNat (Ty.dflt Y35)).2.2.1), .v (.int .i64) ((a0.getD x28.toNat (Ty.dflt Y35)).2.2.2.1), .v (.int .i64) ((a0.getD x28.toNat (Ty.dflt Y35)).2.2.2.2.1), .v .bool ((a0.getD x28.toNat (Ty.dflt Y35)).2.2.2.2.2.1), .v (.sl (.int .i64)) ((a0.getD x28.toNat (Ty.dflt Y35)).2.2.2.2.2.2)]), some (21, .lf (.v (.sl Y35) a1)), some (22, I x28), some (23, .lf (.fp Y35 (a1.getD x28.toNat (Ty.dflt Y35)) 0)), some (24, .agg [.v (.int .i64) ((a1.getD x28.toNat (Ty.dflt Y35)).1), .v .str ((a1.getD x28.toNat (Ty.dflt Y35)).2.1), .v (.int .i64) ((a1.getD x28.toNat (Ty.dflt Y35)).2.2.1), .v (.int .i64) ((a1.getD x28.toNat (Ty.dflt Y35)).2.2.2.1), .v (.int .i64) ((a1.getD x28.toNat (Ty.dflt Y35)).2.2.2.2.1), .v .bool ((a1.getD x28.toNat (Ty.dflt Y35)).2.2.2.2.2.1), .v (.sl (.int .i64)) ((a1.getD x28.toNat (Ty.dflt Y35)).2.2.2.2.2.2)]), some (25, B y41), some (26, B (!y41))] [] [[]] [(0, 0), (1, 0), (2, 0), (3, 0), (4, 0), (5, 0), (6, 0), (7, 0), (8, 0), (9, 0)] [0, 1, 5, 26] [] (s' := ⟨[(0, .lf (.v (.sl Y35) a0)), (1, .lf (.v (.sl Y35) a1)), (5, I x28), (26, B (!y41))], []⟩) (by kernel_rfl) (by kernel_rfl) ⟨⟨_, rfl, Stp.ev T_ok (m := .dp) (φ := True) (by kernel_rfl) trivial⟩,
    ⟨_, rfl, Stp.ev T_ok (m := .dp) (φ := True) (by kernel_rfl) trivial⟩,
    ⟨_, rfl, Stp.ev T_ok (m := .dp) (φ := InR x28 a0.length) (by kernel_rfl) g39⟩,
    ⟨_, rfl, Stp.ev T_ok (m := .dp) (φ := True) (by kernel_rfl) trivial⟩,
    ⟨_, rfl, Stp.ev T_ok (m := .dp) (φ := True) (by kernel_rfl) trivial⟩,
    ⟨_, rfl, Stp.ev T_ok (m := .dp) (φ := True) (by kernel_rfl) trivial⟩,
    ⟨_, rfl, Stp.ev T_ok (m := .dp) (φ := InR x28 a1.length) (by kernel_rfl) g40⟩,
    ⟨_, rfl, Stp.ev T_ok (m := .dp) (φ := True) (by kernel_rfl) trivial⟩,
    ⟨_, rfl, Stp.eq (Stp.call false [.t Y35, .t Y35] [] T_ok (d := some 25) (by kernel_rfl) (ok24 N _ _ hy41) rfl) (by kernel_rfl) (by kernel_rfl)⟩,
    ⟨_, rfl, Stp.ev T_ok (m := .dp) (φ := True) (by kernel_rfl) trivial⟩, trivial⟩ (by kernel_rfl) ?_
          show VW _ _ _ _ _ _ _
          refine VW.cond (b := (!y41)) (by kernel_rfl) (fun hb => ?_) (fun hb => ?_)
          · replace h := cond_t h hb; clear hb
            refine VW.seq ?_
            refine VW.region ?_
            refine VO.seg T_ok .dp 1 [4] [] (s' := ⟨[(4, B false)], []⟩) (φ := True ∧ True) (by kernel_rfl) ⟨trivial, trivial⟩ ?_
            refine VO.nil ?_
            show VW _ _ _ _ _ _ _
            refine VW.ret ?_
            replace h := Option.some.inj h
            subst h
            exact retR [] (by kernel_rfl) rfl
          · replace h := cond_f h hb; clear hb
            refine VW.skip ?_
            show VW _ _ _ _ _ _ _
            refine VW.region ?_
            refine VO.seg T_ok .dp 3 [0, 1, 5] [] (s' := ⟨[(0, .lf (.v (.sl Y35) a0)), (1, .lf (.v (.sl Y35) a1)), (5, I (IntKind.i64.wrap (x28 + (1 : Int))))], []⟩) (φ := True ∧ True ∧ True ∧ True) (by kernel_rfl) ⟨trivial, trivial, trivial, trivial⟩ ?_
            refine VO.nil ?_
            exact around [.ren [0, 1, 5] []] (by kernel_rfl) ⟨(IntKind.i64.wrap (x28 + (1 : Int))), rfl, h⟩
        · replace h := cond_f h hb; clear hb
          refine VW.exit ?_
          exact arrive [.ren [] []] (by kernel_rfl) ⟨rfl, h⟩
    · rintro s ⟨rfl, h⟩
      unfold F11_j0 at h
      refine VW.seq ?_
      refine VW.region ?_
      refine VO.seg T_ok .dp 1 [4] [] (s' := ⟨[(4, B true)], []⟩) (φ := True ∧ True) (by kernel_rfl) ⟨trivial, trivial⟩ ?_
      refine VO.nil ?_
      show VW _ _ _ _ _ _ _
      refine VW.ret ?_
      replace h := Option.some.inj h
      subst h
      exact retR [] (by kernel_rfl) rfl

/- loop.example/g00844/spec.l01Has -/
def F44_j0 (N : Nat) : Option (Bool) :=
  some false
def F44_l0_b (N : Nat) (a0 : (List Int)) (a1 : Int) (nx15 : Int → Option (Bool)) (x12 : Int) : Option (Bool) :=
  cond (decide (x12 < (a0.length : Int))) (gd (InR x12 a0.length) (cond ((a0.getD x12.toNat (Ty.dflt (.int .i64))) == a1) (some true) (nx15 (IntKind.i64.wrap (x12 + (1 : Int)))))) (F44_j0 N)
def F44_l0 (N : Nat) (a0 : (List Int)) (a1 : Int) : Nat → Int → Option (Bool) := loopF (F44_l0_b N a0 a1) (fun _ => none)
theorem F44_l0_s (N : Nat) (a0 : (List Int)) (a1 : Int) {k : Nat} (hk : 0 < k) (x12 : Int) : F44_l0 N a0 a1 k x12 = F44_l0_b N a0 a1 (F44_l0 N a0 a1 (k - 1)) x12 := by
  cases k with
  | zero => exact absurd hk (Nat.lt_irrefl 0)
  | succ m => rfl
def F44 (N : Nat) (a0 : (List Int)) (a1 : Int) : Option (Bool) :=
  F44_l0 N a0 a1 N (0 : Int)
theorem ok44 (N : Nat) (a0 : (List Int)) (a1 : Int) {r : Bool} (h : F44 N a0 a1 = some r) : Con Go.Proofs.Try.prog 44 [.lf (.v (.sl (.int .i64)) a0), I a1] [.lf (.v .bool r)] := by
  refine ⟨enters_of Go.Proofs.Try.func44 rfl (by decide), HC.intro [.lf (.v .bool)] T_ok Go.Proofs.Try.func44 rfl (Nat.le_of_ble_eq_true rfl) (Nat.le_of_ble_eq_true rfl) fun w0 E0 => ?_⟩
  unfold F44 at h
  show VW _ _ _ _ _ (retQ _ _ _ _) _
  refine VW.seq ?_
  refine VW.region ?_
  refine VO.seg T_ok .dp 1 [0, 1] [] (s' := ⟨[(0, .lf (.v (.sl (.int .i64)) a0)), (1, I a1)], []⟩) (φ := True ∧ True) (by kernel_rfl) ⟨trivial, trivial⟩ ?_
  refine VO.nil ?_
  show VW _ _ _ _ _ _ _
  refine VW.join (fun s => s = ⟨[], []⟩ ∧ F44_j0 N = some r) ?_ ?_
  · refine VW.seq ?_
    refine VW.region ?_
    refine VO.seg T_ok .dp 1 [0, 1, 5] [] (s' := ⟨[(0, .lf (.v (.sl (.int .i64)) a0)), (1, I a1), (5, I (0 : Int))], []⟩) (φ := True ∧ True) (by kernel_rfl) ⟨trivial, trivial⟩ ?_
    refine VO.nil ?_
    show VW _ _ _ _ _ _ _
    refine VW.block ?_
    refine VW.loopL (fun k s => ∃ (x12 : Int), s = ⟨[(0, .lf (.v (.sl (.int .i64)) a0)), (1, I a1), (5, I x12)], []⟩ ∧ F44_l0 N a0 a1 k x12 = some r) N [.ren [0, 1, 5] []] (by kernel_rfl) ⟨(0 : Int), rfl, h⟩ ?_
    rintro k15 s ⟨x12, rfl, h⟩
    cases k15 with
    | zero => exact nomatch (show (none : Option (Bool)) = some r from h)
    | succ k15 =>
      replace h : F44_l0_b N a0 a1 (F44_l0 N a0 a1 k15) x12 = some r := h
      unfold F44_l0_b at h
      refine VW.seq ?_
      refine VW.seq ?_
      refine VW.region ?_
      refine VO.seg T_ok .dp 4 [0, 1, 5, 9] [] (s' := ⟨[(0, .lf (.v (.sl (.int .i64)) a0)), (1, I a1), (5, I x12), (9, B (decide (x12 < (a0.length : Int))))], []⟩) (φ := True ∧ True ∧ True ∧ True ∧ True) (by kernel_rfl) ⟨trivial, trivial, trivial, trivial, trivial⟩ ?_
      refine VO.nil ?_
      show VW _ _ _ _ _ _ _
      refine VW.cond (b := (decide (x12 < (a0.length : Int)))) (by kernel_rfl) (fun hb => ?_) (fun hb => ?_)
      · replace h := cond_t h hb; clear hb
        refine VW.skip ?_
        show VW _ _ _ _ _ _ _
        refine VW.seq ?_
        refine VW.block ?_
        refine VW.seq ?_
        refine VW.region ?_
        obtain ⟨g17, h⟩ := gd_some h
        refine VO.seg T_ok .dp 6 [0, 1, 5, 17] [] (s' := ⟨[(0, .lf (.v (.sl (.int .i64)) a0)), (1, I a1), (5, I x12), (17, B ((a0.getD x12.toNat (Ty.dflt (.int .i64))) == a1))], []⟩) (φ := True ∧ True ∧ (InR x12 a0.length) ∧ True ∧ True ∧ True ∧ True) (by kernel_rfl) ⟨trivial, trivial, g17, trivial, trivial, trivial, trivial⟩ ?_
        refine VO.nil ?_
        show VW _ _ _ _ _ _ _
        refine VW.cond (b := ((a0.getD x12.toNat (Ty.dflt (.int .i64))) == a1)) (by kernel_rfl) (fun hb => ?_) (fun hb => ?_)
        · replace h := cond_t h hb; clear hb
          refine VW.seq ?_
          refine VW.region ?_
          refine VO.seg T_ok .dp 1 [4] [] (s' := ⟨[(4, B true)], []⟩) (φ := True ∧ True) (by kernel_rfl) ⟨trivial, trivial⟩ ?_
          refine VO.nil ?_
          show VW _ _ _ _ _ _ _
          refine VW.ret ?_
          replace h := Option.some.inj h
          subst h
          exact retR [] (by kernel_rfl) rfl
        · replace h := cond_f h hb; clear hb
          refine VW.skip ?_
          show VW _ _ _ _ _ _ _
          refine VW.region ?_
          refine VO.seg T_ok .dp 3 [0, 1, 5] [] (s' := ⟨[(0, .lf (.v (.sl (.int .i64)) a0)), (1, I a1), (5, I (IntKind.i64.wrap (x12 + (1 : Int))))], []⟩) (φ := True ∧ True ∧ True ∧ True) (by kernel_rfl) ⟨trivial, trivial, trivial, trivial⟩ ?_
          refine VO.nil ?_
          exact around [.ren [0, 1, 5] []] (by kernel_rfl) ⟨(IntKind.i64.wrap (x12 + (1 : Int))), rfl, h⟩
      · replace h := cond_f h hb; clear hb
        refine VW.exit ?_
        exact arrive [.ren [] []] (by kernel_rfl) ⟨rfl, h⟩
  · rintro s ⟨rfl, h⟩
    unfold F44_j0 at h
    refine VW.seq ?_
    refine VW.region ?_
    refine VO.seg T_ok .dp 1 [4] [] (s' := ⟨[(4, B false)], []⟩) (φ := True ∧ True) (by kernel_rfl) ⟨trivial, trivial⟩ ?_
    refine VO.nil ?_
    show VW _ _ _ _ _ _ _
    refine VW.ret ?_
    replace h := Option.some.inj h
    subst h
    exact retR [] (by kernel_rfl) rfl

/- loop.example/g00844/spec.SlotsOf -/
def F25_j0 (N : Nat) (x210 : (List Int)) : Option ((List Int)) :=
  some x210
def F25_j1 (N : Nat) (nx350 : (List Int) → Int → Option ((List Int))) (x281 : Int) (x384 : (List Int)) : Option ((List Int)) :=
  nx350 x384 (IntKind.i64.wrap (x281 + (1 : Int)))
def F25_j2 (N : Nat) (nx408 : (List Int) → Int → Option ((List Int))) (x397 : Int) (x413 : (List Int)) : Option ((List Int)) :=
  nx408 x413 (IntKind.i64.wrap (x397 + (1 : Int)))
def F25_l0_b (N : Nat) (a0 : (List (Int × (ByteArray × (Int × (Int × (Int × (Bool × (List Int))))))))) (nx350 : (List Int) → Int → Option ((List Int))) (x281 : Int) (nx408 : (List Int) → Int → Option ((List Int))) (x396 : (List Int)) (x397 : Int) : Option ((List Int)) :=
  cond (decide (x397 < (a0.length : Int))) (gd (InR x397 a0.length) (cond ((a0.getD x397.toNat (Ty.dflt Y35)).2.2.2.2.2.1) (gd (InR x397 a0.length) (cond (((a0.getD x397.toNat (Ty.dflt Y35)).2.2.2.2.1) == x281) (andO (F44 N x396 x281) fun y417 => cond (!y417) (gd (x396.length + ([x281]).length ≤ lim (.int .i64)) (F25_j2 N nx408 x397 (x396 ++ ([x281])))) (F25_j2 N nx408 x397 x396)) (F25_j2 N nx408 x397 x396))) (F25_j2 N nx408 x397 x396))) (F25_j1 N nx350 x281 x396)
def F25_l0 (N : Nat) (a0 : (List (Int × (ByteArray × (Int × (Int × (Int × (Bool × (List Int))))))))) (nx350 : (List Int) → Int → Option ((List Int))) (x281 : Int) : Nat → (List Int) → Int → Option ((List Int)) := loopF (F25_l0_b N a0 nx350 x281) (fun _ _ => none)
theorem F25_l0_s (N : Nat) (a0 : (List (Int × (ByteArray × (Int × (Int × (Int × (Bool × (List Int))))))))) (nx350 : (List Int) → Int → Option ((List Int))) (x281 : Int) {k : Nat} (hk : 0 < k) (x396 : (List Int)) (x397 : Int) : F25_l0 N a0 nx350 x281 k x396 x397 = F25_l0_b N a0 nx350 x281 (F25_l0 N a0 nx350 x281 (k - 1)) x396 x397 := by
  cases k with
  | zero => exact absurd hk (Nat.lt_irrefl 0)
  | succ m => rfl
def F25_l1_b (N : Nat) (a0 : (List (Int × (ByteArray × (Int × (Int × (Int × (Bool × (List Int))))))))) (nx350 : (List Int) → Int → Option ((List Int))) (x280 : (List Int)) (x281 : Int) : Option ((List Int)) :=
  cond (decide (x281 < (40 : Int))) (F25_l0 N a0 nx350 x281 N x280 (0 : Int)) (F25_j0 N x280)
def F25_l1 (N : Nat) (a0 : (List (Int × (ByteArray × (Int × (Int × (Int × (Bool × (List Int))))))))) : Nat → (List Int) → Int → Option ((List Int)) := loopF (F25_l1_b N a0) (fun _ _ => none)
theorem F25_l1_s (N : Nat) (a0 : (List (Int × (ByteArray × (Int × (Int × (Int × (Bool × (List Int))))))))) {k : Nat} (hk : 0 < k) (x280 : (List Int)) (x281 : Int) : F25_l1 N a0 k x280 x281 = F25_l1_b N a0 (F25_l1 N a0 (k - 1)) x280 x281 := by
  cases k with
  | zero => exact absurd hk (Nat.lt_irrefl 0)
  | succ m => rfl
def F25 (N : Nat) (a0 : (List (Int × (ByteArray × (Int × (Int × (Int × (Bool × (List Int))))))))) : Option ((List Int)) :=
  andO (F19 N a0) fun y2 => cond (!y2) (some ([])) (F25_l1 N a0 N ([]) (0 : Int))
theorem ok25 (N : Nat) (a0 : (List (Int × (ByteArray × (Int × (Int × (Int × (Bool × (List Int))))))))) {r : (List Int)} (h : F25 N a0 = some r) : Con Go.Proofs.Try.prog 25 [.lf (.v (.sl Y35) a0)] [.lf (.own (.int .i64) r .dp)] := by
  refine ⟨enters_of Go.Proofs.Try.func25 rfl (by decide), HC.intro [.lf (.own (.int .i64) .dp)] T_ok Go.Proofs.Try.func25 rfl (Nat.le_of_ble_eq_true rfl) (Nat.le_of_ble_eq_true rfl) fun w0 E0 => ?_⟩
  unfold F25 at h
  show VW _ _ _ _ _ (retQ _ _ _ _) _
  refine VW.seq ?_
  refine VW.region ?_
  refine VO.seg T_ok .dp 1 [0] [] (s' := ⟨[(0, .lf (.v (.sl Y35) a0))], []⟩) (φ := True ∧ True) (by kernel_rfl) ⟨trivial, trivial⟩ ?_
  refine VO.nil ?_
  show VW _ _ _ _ _ _ _
  refine VW.seq ?_
  refine VW.region ?_
  refine VO.seg T_ok .dp 2 [0, 3] [] (s' := ⟨[(0, .lf (.v (.sl Y35) a0)), (3, .lf (.nil))], []⟩) (φ := True ∧ True ∧ True) (by kernel_rfl) ⟨trivial, trivial, trivial⟩ ?_
  refine VO.nil ?_
  show VW _ _ _ _ _ _ _
  refine VW.seq ?_
  refine VW.seq ?_
  refine VW.region ?_
  refine VO.seg T_ok .dp 1 [0, 3, 7] [] (s' := ⟨[(0, .lf (.v (.sl Y35) a0)), (3, .lf (.nil)), (7, .lf (.v (.sl Y35) a0))], []⟩) (φ := True ∧ True) (by kernel_rfl) ⟨trivial, trivial⟩ ?_
  obtain ⟨y2, hy, h⟩ := andO_some h
  refine VO.call false [.t (.sl Y35)] [] T_ok (d := some 8) (by kernel_rfl) (ok19 N _ hy) rfl ?_
  refine VO.seg T_ok .dp 1 [0, 3, 9] [] (s' := ⟨[(0, .lf (.v (.sl Y35) a0)), (3, .lf (.nil)), (9, B (!y2))], []⟩) (φ := True ∧ True) (by kernel_rfl) ⟨trivial, trivial⟩ ?_
  refine VO.nil ?_
  show VW _ _ _ _ _ _ _
  refine VW.cond (b := (!y2)) (by kernel_rfl) (fun hb => ?_) (fun hb => ?_)
  · replace h := cond_t h hb; clear hb
    refine VW.seq ?_
    refine VW.region ?_
    refine VO.seg T_ok .dp 1 [2] [] (s' := ⟨[(2, .lf (.nil))], []⟩) (φ := True ∧ True) (by kernel_rfl) ⟨trivial, trivial⟩ ?_
    refine VO.nil ?_
    show VW _ _ _ _ _ _ _
    refine VW.ret ?_
    replace h := Option.some.inj h
    subst h
    exact retR [none] (by kernel_rfl) rfl
  · replace h := cond_f h hb; clear hb
    refine VW.skip ?_
    show VW _ _ _ _ _ _ _
    refine VW.join (fun s => ∃ (x210 : (List Int)), s = ⟨[(3, .lf (.hd 0 0 none))], [ar 0 (.int .i64) x210 .dp]⟩ ∧ F25_j0 N x210 = some r) ?_ ?_
    · refine VW.seq ?_
      refine VW.region ?_
      refine VO.seg T_ok .dp 1 [0, 3, 4] [] (s' := ⟨[(0, .lf (.v (.sl Y35) a0)), (3, .lf (.nil)), (4, I (0 : Int))], []⟩) (φ := True ∧ True) (by kernel_rfl) ⟨trivial, trivial⟩ ?_
      refine VO.nil ?_
      show VW _ _ _ _ _ _ _
      refine VW.block ?_
      refine VW.loopL (fun k s => ∃ (x280 : (List Int)) (x281 : Int), s = ⟨[(0, .lf (.v (.sl Y35) a0)), (3, .lf (.hd 0 0 none)), (4, I x281)], [ar 0 (.int .i64) x280 .dp]⟩ ∧ F25_l1 N a0 k x280 x281 = some r) N [.nilS 3 (.int .i64) .dp, .ren [0, 3, 4] [0]] (by kernel_rfl) ⟨[], (0 : Int), rfl, h⟩ ?_
      rintro k350 s ⟨x280, x281, rfl, h⟩
      cases k350 with
      | zero => exact nomatch (show (none : Option ((List Int))) = some r from h)
      | succ k350 =>
        replace h : F25_l1_b N a0 (F25_l1 N a0 k350) x280 x281 = some r := h
        unfold F25_l1_b at h
        refine VW.seq ?_
        refine VW.seq ?_
        refine VW.region ?_
        refine VO.seg T_ok .dp 2 [0, 3, 4, 11] [0] (s' := ⟨[(0, .lf (.v (.sl Y35) a0)), (3, .lf (.hd 0 0 none)), (4, I x281), (11, B (decide (x281 < (40 : Int))))], [ar 0 (.int .i64) x280 .dp]⟩) (φ := True ∧ True ∧ True) (by kernel_rfl) ⟨trivial, trivial, trivial⟩ ?_
        refine VO.nil ?_
        show VW _ _ _ _ _ _ _
        refine VW.cond (b := (decide (x281 < (40 : Int)))) (by kernel_rfl) (fun hb => ?_) (fun hb => ?_)
        · replace h := cond_t h hb; clear hb
          refine VW.skip ?_
          show VW _ _ _ _ _ _ _
          refine VW.join (fun s => ∃ (x384 : (List Int)), s = ⟨[(0, .lf (.v (.sl Y35) a0)), (3, .lf (.hd 0 0 none)), (4, I x281)], [ar 0 (.int .i64) x384 .dp]⟩ ∧ F25_j1 N (F25_l1 N a0 k350) x281 x384 = some r) ?_ ?_
          · refine VW.block ?_
            refine VW.seq ?_
            refine VW.region ?_
            refine VO.seg T_ok .dp 1 [0, 3, 4, 5] [0] (s' := ⟨[(0, .lf (.v (.sl Y35) a0)), (3, .lf (.hd 0 0 none)), (4, I x281), (5, I (0 : Int))], [ar 0 (.int .i64) x280 .dp]⟩) (φ := True ∧ True) (by kernel_rfl) ⟨trivial, trivial⟩ ?_
            refine VO.nil ?_
            show VW _ _ _ _ _ _ _
            refine VW.block ?_
            refine VW.loopL (fun k s => ∃ (x396 : (List Int)) (x397 : Int), s = ⟨[(0, .lf (.v (.sl Y35) a0)), (3, .lf (.hd 0 0 none)), (4, I x281), (5, I x397)], [ar 0 (.int .i64) x396 .dp]⟩ ∧ F25_l0 N a0 (F25_l1 N a0 k350) x281 k x396 x397 = some r) N [.ren [0, 3, 4, 5] [0]] (by kernel_rfl) ⟨x280, (0 : Int), rfl, h⟩ ?_
            rintro k408 s ⟨x396, x397, rfl, h⟩
            cases k408 with
            | zero => exact nomatch (show (none : Option ((List Int))) = some r from h)
            | succ k408 =>
              replace h : F25_l0_b N a0 (F25_l1 N a0 k350) x281 (F25_l0 N a0 (F25_l1 N a0 k350) x281 k408) x396 x397 = some r := h
              unfold F25_l0_b at h
              refine VW.seq ?_
              refine VW.seq ?_
              refine VW.region ?_
              refine VO.seg T_ok .dp 4 [0, 3, 4, 5, 17] [0] (s' := ⟨[(0, .lf (.v (.sl Y35) a0)), (3, .lf (.hd 0 0 none)), (4, I x281), (5, I x397), (17, B (decide (x397 < (a0.length : Int))))], [ar 0 (.int .i64) x396 .dp]⟩) (φ := True ∧ True ∧ True ∧ True ∧ True) (by kernel_rfl) ⟨trivial, trivial, trivial, trivial, trivial⟩ ?_
              refine VO.nil ?_
              show VW _ _ _ _ _ _ _
              refine VW.cond (b := (decide (x397 < (a0.length : Int)))) (by kernel_rfl) (fun hb => ?_) (fun hb => ?_)
              · replace h := cond_t h hb; clear hb
                refine VW.skip ?_
                show VW _ _ _ _ _ _ _
                refine VW.join (fun s => ∃ (x413 : (List Int)), s = ⟨[(0, .lf (.v (.sl Y35) a0)), (3, .lf (.hd 0 0 none)), (4, I x281), (5, I x397)], [ar 0 (.int .i64) x413 .dp]⟩ ∧ F25_j2 N (F25_l0 N a0 (F25_l1 N a0 k350) x281 k408) x397 x413 = some r) ?_ ?_
                · refine VW.block ?_
                  refine VW.seq ?_
                  refine VW.region ?_
                  obtain ⟨g415, h⟩ := gd_some h
                  refine VO.seg T_ok .dp 6 [0, 3, 4, 5, 25] [0] (s' := ⟨[(0, .lf (.v (.sl Y35) a0)), (3, .lf (.hd 0 0 none)), (4, I x281), (5, I x397), (25, B ((a0.getD x397.toNat (Ty.dflt Y35)).2.2.2.2.2.1))], [ar 0 (.int .i64) x396 .dp]⟩) (φ := True ∧ True ∧ (InR x397 a0.length) ∧ True ∧ True ∧ True ∧ True) (by kernel_rfl) ⟨trivial, trivial, g415, trivial, trivial, trivial, trivial⟩ ?_
                  refine VO.splitB 25 (b := (a0.getD x397.toNat (Ty.dflt Y35)).2.2.2.2.2.1) (by kernel_rfl) (fun hb => ?_) (fun hb => ?_)
                  · replace h := cond_t h hb; clear hb
                    obtain ⟨g416, h⟩ := gd_some h
                    refine VO.seg T_ok .dp 9 [0, 3, 4, 5, 34] [0] (s' := ⟨[(0, .lf (.v (.sl Y35) a0)), (3, .lf (.hd 0 0 none)), (4, I x281), (5, I x397), (34, B (((a0.getD x397.toNat (Ty.dflt Y35)).2.2.2.2.1) == x281))], [ar 0 (.int .i64) x396 .dp]⟩) (φ := True ∧ True ∧ (InR x397 a0.length) ∧ True ∧ True ∧ True ∧ True ∧ True ∧ True ∧ True) (by kernel_rfl) ⟨trivial, trivial, g416, trivial, trivial, trivial, trivial, trivial, trivial, trivial⟩ ?_
                    refine VO.splitB 34 (b := (((a0.getD x397.toNat (Ty.dflt Y35)).2.2.2.2.1) == x281)) (by kernel_rfl) (fun hb => ?_) (fun hb => ?_)
                    · replace h := cond_t h hb; clear hb
                      refine VO.seg T_ok .dp 2 [0, 3, 4, 5, 34, 35, 36] [0] (s' := ⟨[(0, .lf (.v (.sl Y35) a0)), (3, .lf (.hd 0 0 none)), (4, I x281), (5, I x397), (34, B true), (35, .lf (.hd 0 0 none)), (36, I x281)], [ar 0 (.int .i64) x396 .dp]⟩) (φ := True ∧ True ∧ True) (by kernel_rfl) ⟨trivial, trivial, trivial⟩ ?_
                      refine VO.on (j := 14) (want := true) (d := 34) (b := true) rfl rfl rfl (by kernel_rfl) rfl ?_
                      obtain ⟨y417, hy, h⟩ := andO_some h
                      refine VO.call true [.t (.sl (.int .i64)), .t (.int .i64)] [] T_ok (d := some 37) (by kernel_rfl) (ok44 N _ _ hy) rfl ?_
                      refine VO.seg T_ok .dp 2 [0, 3, 4, 5, 39] [0] (s' := ⟨[(0, .lf (.v (.sl Y35) a0)), (3, .lf (.hd 0 0 none)), (4, I x281), (5, I x397), (39, B (!y417))], [ar 0 (.int .i64) x396 .dp]⟩) (φ := True ∧ True ∧ True) (by kernel_rfl) ⟨trivial, trivial, trivial⟩ ?_
                      refine VO.nil ?_
                      show VW _ _ _ _ _ _ _
                      refine VW.cond (b := (!y417)) (by kernel_rfl) (fun hb => ?_) (fun hb => ?_)
                      · replace h := cond_t h hb; clear hb
                        refine VW.region ?_
                        obtain ⟨g418, h⟩ := gd_some h
                        refine VO.seg T_ok .dp 5 [0, 3, 4, 5] [0] (s' := ⟨[(0, .lf (.v (.sl Y35) a0)), (3, .lf (.hd 0 0 none)), (4, I x281), (5, I x397)], [ar 0 (.int .i64) (x396 ++ ([x281])) .dp]⟩) (φ := True ∧ True ∧ True ∧ (x396.length + ([x281]).length ≤ lim (.int .i64)) ∧ True ∧ True) (by kernel_rfl) ⟨trivial, trivial, trivial, g418, trivial, trivial⟩ ?_
                        refine VO.nil ?_
                        exact arrive [.ren [0, 3, 4, 5] [0]] (by kernel_rfl) ⟨(x396 ++ ([x281])), rfl, h⟩
                      · replace h := cond_f h hb; clear hb
                        refine VW.skip ?_
                        exact arrive [.ren [0, 3, 4, 5] [0]] (by kernel_rfl) ⟨x396, rfl, h⟩
                    · replace h := cond_f h hb; clear hb
                      refine VO.seg T_ok .dp 5 [0, 3, 4, 5, 39] [0] (s' := ⟨[(0, .lf (.v (.sl Y35) a0)), (3, .lf (.hd 0 0 none)), (4, I x281), (5, I x397), (39, B false)], [ar 0 (.int .i64) x396 .dp]⟩) (φ := True ∧ True ∧ True ∧ True ∧ True ∧ True) (by kernel_rfl) ⟨trivial, trivial, trivial, trivial, trivial, trivial⟩ ?_
                      refine VO.nil ?_
                      show VW _ _ _ _ _ _ _
                      refine VW.cond (b := false) (by kernel_rfl) (fun h' => nomatch h') (fun _ => ?_)
                      refine VW.skip ?_
                      exact arrive [.ren [0, 3, 4, 5] [0]] (by kernel_rfl) ⟨x396, rfl, h⟩
                  · replace h := cond_f h hb; clear hb
                    refine VO.seg T_ok .dp 14 [0, 3, 4, 5, 39] [0] (s' := ⟨[(0, .lf (.v (.sl Y35) a0)), (3, .lf (.hd 0 0 none)), (4, I x281), (5, I x397), (39, B false)], [ar 0 (.int .i64) x396 .dp]⟩) (φ := True ∧ True ∧ True ∧ True ∧ True ∧ True ∧ True ∧ True ∧ True ∧ True ∧ True ∧ True ∧ True ∧ True ∧ True) (by kernel_rfl) ⟨trivial, trivial, trivial, trivial, trivial, trivial, trivial, trivial, trivial, trivial, trivial, trivial, trivial, trivial, trivial⟩ ?_
                    refine VO.nil ?_
                    show VW _ _ _ _ _ _ _
                    refine VW.cond (b := false) (by kernel_rfl) (fun h' => nomatch h') (fun _ => ?_)
                    refine VW.skip ?_
                    exact arrive [.ren [0, 3, 4, 5] [0]] (by kernel_rfl) ⟨x396, rfl, h⟩
                · rintro s ⟨x413, rfl, h⟩
                  unfold F25_j2 at h
                  refine VW.region ?_
                  refine VO.seg T_ok .dp 3 [0, 3, 4, 5] [0] (s' := ⟨[(0, .lf (.v (.sl Y35) a0)), (3, .lf (.hd 0 0 none)), (4, I x281), (5, I (IntKind.i64.wrap (x397 + (1 : Int))))], [ar 0 (.int .i64) x413 .dp]⟩) (φ := True ∧ True ∧ True ∧ True) (by kernel_rfl) ⟨trivial, trivial, trivial, trivial⟩ ?_
                  refine VO.nil ?_
                  exact around [.ren [0, 3, 4, 5] [0]] (by kernel_rfl) ⟨x413, (IntKind.i64.wrap (x397 + (1 : Int))), rfl, h⟩
              · replace h := cond_f h hb; clear hb
                refine VW.exit ?_
                exact arrive [.ren [0, 3, 4] [0]] (by kernel_rfl) ⟨x396, rfl, h⟩
          · rintro s ⟨x384, rfl, h⟩
            unfold F25_j1 at h
            refine VW.region ?_
            refine VO.seg T_ok .dp 3 [0, 3, 4] [0] (s' := ⟨[(0, .lf (.v (.sl Y35) a0)), (3, .lf (.hd 0 0 none)), (4, I (IntKind.i64.wrap (x281 + (1 : Int))))], [ar 0 (.int .i64) x384 .dp]⟩) (φ := True ∧ True ∧ True ∧ True) (by kernel_rfl) ⟨trivial, trivial, trivial, trivial⟩ ?_
            refine VO.nil ?_
            exact around [.ren [0, 3, 4] [0]] (by kernel_rfl) ⟨x384, (IntKind.i64.wrap (x281 + (1 : Int))), rfl, h⟩
        · replace h := cond_f h hb; clear hb
          refine VW.exit ?_
          exact arrive [.ren [3] [0]] (by kernel_rfl) ⟨x280, rfl, h⟩
    · rintro s ⟨x210, rfl, h⟩
      unfold F25_j0 at h
      refine VW.seq ?_
      refine VW.region ?_
      refine VO.seg T_ok .dp 2 [2] [0] (s' := ⟨[(2, .lf (.hd 0 0 none))], [ar 0 (.int .i64) x210 .dp]⟩) (φ := True ∧ True ∧ True) (by kernel_rfl) ⟨trivial, trivial, trivial⟩ ?_
      refine VO.nil ?_
      show VW _ _ _ _ _ _ _
      refine VW.ret ?_
      replace h := Option.some.inj h
      subst h
      exact retR [some 0] (by kernel_rfl) rfl

/- loop.example/g00844/spec.Closed -/
def F12 (N : Nat) (a0 : (List (Int × (ByteArray × (Int × (Int × (Int × (Bool × (List Int))))))))) : Option (Bool) :=
  andO (F19 N a0) fun y1 => cond y1 (andO (F25 N a0) fun y2 => some ((y2.length : Int) == (0 : Int))) (some false)
theorem ok12 (N : Nat) (a0 : (List (Int × (ByteArray × (Int × (Int × (Int × (Bool × (List Int))))))))) {r : Bool} (h : F12 N a0 = some r) : Con Go.Proofs.Try.prog 12 [.lf (.v (.sl Y35) a0)] [.lf (.v .bool r)] := by
  refine ⟨enters_of Go.Proofs.Try.func12 rfl (by decide), HC.intro [.lf (.v .bool)] T_ok Go.Proofs.Try.func12 rfl (Nat.le_of_ble_eq_true rfl) (Nat.le_of_ble_eq_true rfl) fun w0 E0 => ?_⟩
  unfold F12 at h
  show VW _ _ _ _ _ (retQ _ _ _ _) _
  refine VW.seq ?_
  refine VW.region ?_
  refine VO.seg T_ok .dp 1 [0] [] (s' := ⟨[(0, .lf (.v (.sl Y35) a0))], []⟩) (φ := True ∧ True) (by kernel_rfl) ⟨trivial, trivial⟩ ?_
  refine VO.nil ?_
  show VW _ _ _ _ _ _ _
  refine VW.seq ?_
  refine VW.region ?_
  refine VO.seg T_ok .dp 1 [0, 3] [] (s' := ⟨[(0, .lf (.v (.sl Y35) a0)), (3, .lf (.v (.sl Y35) a0))], []⟩) (φ := True ∧ True) (by kernel_rfl) ⟨trivial, trivial⟩ ?_
  obtain ⟨y1, hy, h⟩ := andO_some h
  refine VO.call false [.t (.sl Y35)] [] T_ok (d := some 4) (by kernel_rfl) (ok19 N _ hy) rfl ?_
  refine VO.seg T_ok .dp 1 [0, 5] [] (s' := ⟨[(0, .lf (.v (.sl Y35) a0)), (5, B y1)], []⟩) (φ := True ∧ True) (by kernel_rfl) ⟨trivial, trivial⟩ ?_
  refine VO.splitB 5 (b := y1) (by kernel_rfl) (fun hb => ?_) (fun hb => ?_)
  · replace h := cond_t h hb; clear hb
    refine VO.seg T_ok .dp 1 [5, 6] [] (s' := ⟨[(5, B true), (6, .lf (.v (.sl Y35) a0))], []⟩) (φ := True ∧ True) (by kernel_rfl) ⟨trivial, trivial⟩ ?_
    refine VO.on (j := 2) (want := true) (d := 5) (b := true) rfl rfl rfl (by kernel_rfl) rfl ?_
    obtain ⟨y2, hy, h⟩ := andO_some h
    refine VO.call false [.t (.sl Y35)] [] T_ok (d := some 7) (by kernel_rfl) (ok25 N _ hy) rfl ?_
    refine VO.seg T_ok .dp 4 [2] [] (s' := ⟨[(2, B ((y2.length : Int) == (0 : Int)))], []⟩) (φ := True ∧ True ∧ True ∧ True ∧ True) (by kernel_rfl) ⟨trivial, trivial, trivial, trivial, trivial⟩ ?_
    refine VO.nil ?_
    show VW _ _ _ _ _ _ _
    refine VW.ret ?_
    replace h := Option.some.inj h
    subst h
    exact retR [] (by kernel_rfl) rfl
  · replace h := cond_f h hb; clear hb
    refine VO.seg T_ok .dp 6 [2] [] (s' := ⟨[(2, B false)], []⟩) (φ := True ∧ True ∧ True ∧ True ∧ True ∧ True ∧ True) (by kernel_rfl) ⟨trivial, trivial, trivial, trivial, trivial, trivial, trivial⟩ ?_
    refine VO.nil ?_
    show VW _ _ _ _ _ _ _
    refine VW.ret ?_
    replace h := Option.some.inj h
    subst h
    exact retR [] (by kernel_rfl) rfl

/- loop.example/g00844/impl.hasSlot$1 -/
def F45 (N : Nat) (a0 : (Int × (ByteArray × (Int × (Int × (Int × (Bool × (List Int)))))))) : Option (Bool) :=
  some a0.2.2.2.2.2.1
theorem ok45 (N : Nat) (a0 : (Int × (ByteArray × (Int × (Int × (Int × (Bool × (List Int)))))))) {r : Bool} (h : F45 N a0 = some r) : Con Go.Proofs.Try.prog 45 [.agg [.v (.int .i64) a0.1, .v .str a0.2.1, .v (.int .i64) a0.2.2.1, .v (.int .i64) a0.2.2.2.1, .v (.int .i64) a0.2.2.2.2.1, .v .bool a0.2.2.2.2.2.1, .v (.sl (.int .i64)) a0.2.2.2.2.2.2]] [.lf (.v .bool r)] := by
  refine ⟨enters_of Go.Proofs.Try.func45 rfl (by decide), HC.intro [.lf (.v .bool)] T_ok Go.Proofs.Try.func45 rfl (Nat.le_of_ble_eq_true rfl) (Nat.le_of_ble_eq_true rfl) fun w0 E0 => ?_⟩
  unfold F45 at h
  show VW _ _ _ _ _ (retQ _ _ _ _) _
  refine VW.seq ?_
  refine VW.region ?_
  refine VO.seg T_ok .dp 2 [1] [0] (s' := ⟨[(1, .lf (.ptr 0 0 0 0))], [bx [.v (.int .i64) a0.1, .v .str a0.2.1, .v (.int .i64) a0.2.2.1, .v (.int .i64) a0.2.2.2.1, .v (.int .i64) a0.2.2.2.2.1, .v .bool a0.2.2.2.2.2.1, .v (.sl (.int .i64)) a0.2.2.2.2.2.2] 37]⟩) (φ := True ∧ True ∧ True) (by kernel_rfl) ⟨trivial, trivial, trivial⟩ ?_
  refine VO.nil ?_
  show VW _ _ _ _ _ _ _
  refine VW.seq ?_
  refine VW.region ?_
  refine VO.seg T_ok .dp 3 [2] [] (s' := ⟨[(2, B a0.2.2.2.2.2.1)], []⟩) (φ := True ∧ True ∧ True ∧ True) (by kernel_rfl) ⟨trivial, trivial, trivial, trivial⟩ ?_
  refine VO.nil ?_
  show VW _ _ _ _ _ _ _
  refine VW.ret ?_
  replace h := Option.some.inj h
  subst h
  exact retR [] (by kernel_rfl) rfl

/- loop.example/g00844/impl.hasSlot -/
def F26 (N : Nat) (a0 : (List (Int × (ByteArray × (Int × (Int × (Int × (Bool × (List Int))))))))) : Option (Bool) :=
  andO (F22 N a0 (fun z0 => F45 N z0)) fun y1 => some y1
theorem ok26 (N : Nat) (a0 : (List (Int × (ByteArray × (Int × (Int × (Int × (Bool × (List Int))))))))) {r : Bool} (h : F26 N a0 = some r) : Con Go.Proofs.Try.prog 26 [.lf (.v (.sl Y35) a0)] [.lf (.v .bool r)] := by
  refine ⟨enters_of Go.Proofs.Try.func26 rfl (by decide), HC.intro [.lf (.v .bool)] T_ok Go.Proofs.Try.func26 rfl (Nat.le_of_ble_eq_true rfl) (Nat.le_of_ble_eq_true rfl) fun w0 E0 => ?_⟩
  unfold F26 at h
  show VW _ _ _ _ _ (retQ _ _ _ _) _
  refine VW.seq ?_
  refine VW.region ?_
  refine VO.seg T_ok .dp 1 [0] [] (s' := ⟨[(0, .lf (.v (.sl Y35) a0))], []⟩) (φ := True ∧ True) (by kernel_rfl) ⟨trivial, trivial⟩ ?_
  refine VO.nil ?_
  show VW _ _ _ _ _ _ _
  refine VW.seq ?_
  refine VW.region ?_
  refine VO.seg T_ok .dp 1 [3] [] (s' := ⟨[(3, .lf (.v (.sl Y35) a0))], []⟩) (φ := True ∧ True) (by kernel_rfl) ⟨trivial, trivial⟩ ?_
  obtain ⟨y1, hy, h⟩ := andO_some h
  refine VO.call false [.t (.sl Y35), .clo []] [] T_ok (d := some 4) (by kernel_rfl) (ok22 N _ 45  (fun z0 => F45 N z0 ) (fun z0 _ hz => ok45 N z0 hz) hy) rfl ?_
  refine VO.seg T_ok .dp 1 [2] [] (s' := ⟨[(2, B y1)], []⟩) (φ := True ∧ True) (by kernel_rfl) ⟨trivial, trivial⟩ ?_
  refine VO.nil ?_
  show VW _ _ _ _ _ _ _
  refine VW.ret ?_
  replace h := Option.some.inj h
  subst h
  exact retR [] (by kernel_rfl) rfl

/- loop.example/g00844/impl.Closed -/
def F13 (N : Nat) (a0 : (List (Int × (ByteArray × (Int × (Int × (Int × (Bool × (List Int))))))))) : Option (Bool) :=
  andO (F21 N a0) fun y1 => cond y1 (andO (F26 N a0) fun y2 => some (!y2)) (some false)
theorem ok13 (N : Nat) (a0 : (List (Int × (ByteArray × (Int × (Int × (Int × (Bool × (List Int))))))))) {r : Bool} (h : F13 N a0 = some r) : Con Go.Proofs.Try.prog 13 [.lf (.v (.sl Y35) a0)] [.lf (.v .bool r)] := by
  refine ⟨enters_of Go.Proofs.Try.func13 rfl (by decide), HC.intro [.lf (.v .bool)] T_ok Go.Proofs.Try.func13 rfl (Nat.le_of_ble_eq_true rfl) (Nat.le_of_ble_eq_true rfl) fun w0 E0 => ?_⟩
  unfold F13 at h
  show VW _ _ _ _ _ (retQ _ _ _ _) _
  refine VW.seq ?_
  refine VW.region ?_
  refine VO.seg T_ok .dp 1 [0] [] (s' := ⟨[(0, .lf (.v (.sl Y35) a0))], []⟩) (φ := True ∧ True) (by kernel_rfl) ⟨trivial, trivial⟩ ?_
  refine VO.nil ?_
  show VW _ _ _ _ _ _ _
  refine VW.seq ?_
  refine VW.region ?_
  refine VO.seg T_ok .dp 1 [0, 3] [] (s' := ⟨[(0, .lf (.v (.sl Y35) a0)), (3, .lf (.v (.sl Y35) a0))], []⟩) (φ := True ∧ True) (by kernel_rfl) ⟨trivial, trivial⟩ ?_
  obtain ⟨y1, hy, h⟩ := andO_some h
  refine VO.call false [.t (.sl Y35)] [] T_ok (d := some 4) (by kernel_rfl) (ok21 N _ hy) rfl ?_
  refine VO.seg T_ok .dp 1 [0, 5] [] (s' := ⟨[(0, .lf (.v (.sl Y35) a0)), (5, B y1)], []⟩) (φ := True ∧ True) (by kernel_rfl) ⟨trivial, trivial⟩ ?_
  refine VO.splitB 5 (b := y1) (by kernel_rfl) (fun hb => ?_) (fun hb => ?_)
  · replace h := cond_t h hb; clear hb
    refine VO.seg T_ok .dp 1 [5, 6] [] (s' := ⟨[(5, B true), (6, .lf (.v (.sl Y35) a0))], []⟩) (φ := True ∧ True) (by kernel_rfl) ⟨trivial, trivial⟩ ?_
    refine VO.on (j := 2) (want := true) (d := 5) (b := true) rfl rfl rfl (by kernel_rfl) rfl ?_
    obtain ⟨y2, hy, h⟩ := andO_some h
    refine VO.call false [.t (.sl Y35)] [] T_ok (d := some 7) (by kernel_rfl) (ok26 N _ hy) rfl ?_
    refine VO.seg T_ok .dp 3 [2] [] (s' := ⟨[(2, B (!y2))], []⟩) (φ := True ∧ True ∧ True ∧ True) (by kernel_rfl) ⟨trivial, trivial, trivial, trivial⟩ ?_
    refine VO.nil ?_
    show VW _ _ _ _ _ _ _
    refine VW.ret ?_
    replace h := Option.some.inj h
    subst h
    exact retR [] (by kernel_rfl) rfl
  · replace h := cond_f h hb; clear hb
    refine VO.seg T_ok .dp 5 [2] [] (s' := ⟨[(2, B false)], []⟩) (φ := True ∧ True ∧ True ∧ True ∧ True ∧ True) (by kernel_rfl) ⟨trivial, trivial, trivial, trivial, trivial, trivial⟩ ?_
    refine VO.nil ?_
    show VW _ _ _ _ _ _ _
    refine VW.ret ?_
    replace h := Option.some.inj h
    subst h
    exact retR [] (by kernel_rfl) rfl

/- loop.example/g00844/spec.l01Copy -/
def F83_j0 (N : Nat) (x16 : (List Int)) : Option ((List Int)) :=
  some x16
def F83_l0_b (N : Nat) (a0 : (List Int)) (nx28 : (List Int) → Int → Option ((List Int))) (x22 : (List Int)) (x23 : Int) : Option ((List Int)) :=
  cond (decide (x23 < (a0.length : Int))) (gd (InR x23 a0.length) (gd (x22.length + ([(a0.getD x23.toNat (Ty.dflt (.int .i64)))]).length ≤ lim (.int .i64)) (nx28 (x22 ++ ([(a0.getD x23.toNat (Ty.dflt (.int .i64)))])) (IntKind.i64.wrap (x23 + (1 : Int)))))) (F83_j0 N x22)
def F83_l0 (N : Nat) (a0 : (List Int)) : Nat → (List Int) → Int → Option ((List Int)) := loopF (F83_l0_b N a0) (fun _ _ => none)
theorem F83_l0_s (N : Nat) (a0 : (List Int)) {k : Nat} (hk : 0 < k) (x22 : (List Int)) (x23 : Int) : F83_l0 N a0 k x22 x23 = F83_l0_b N a0 (F83_l0 N a0 (k - 1)) x22 x23 := by
  cases k with
  | zero => exact absurd hk (Nat.lt_irrefl 0)
  | succ m => rfl
def F83 (N : Nat) (a0 : (List Int)) : Option ((List Int)) :=
  F83_l0 N a0 N ([]) (0 : Int)
theorem ok83 (N : Nat) (a0 : (List Int)) {r : (List Int)} (h : F83 N a0 = some r) : Con Go.Proofs.Try.prog 83 [.lf (.v (.sl (.int .i64)) a0)] [.lf (.own (.int .i64) r .dp)] := by
  refine ⟨enters_of Go.Proofs.Try.func83 rfl (by decide), HC.intro [.lf (.own (.int .i64) .dp)] T_ok Go.Proofs.Try.func83 rfl (Nat.le_of_ble_eq_true rfl) (Nat.le_of_ble_eq_true rfl) fun w0 E0 => ?_⟩
  unfold F83 at h
  show VW _ _ _ _ _ (retQ _ _ _ _) _
  refine VW.seq ?_
  refine VW.region ?_
  refine VO.seg T_ok .dp 1 [0] [] (s' := ⟨[(0, .lf (.v (.sl (.int .i64)) a0))], []⟩) (φ := True ∧ True) (by kernel_rfl) ⟨trivial, trivial⟩ ?_
  refine VO.nil ?_
  show VW _ _ _ _ _ _ _
  refine VW.seq ?_
  refine VW.region ?_
  refine VO.seg T_ok .dp 2 [0, 3] [] (s' := ⟨[(0, .lf (.v (.sl (.int .i64)) a0)), (3, .lf (.nil))], []⟩) (φ := True ∧ True ∧ True) (by kernel_rfl) ⟨trivial, trivial, trivial⟩ ?_
  refine VO.nil ?_
  show VW _ _ _ _ _ _ _
  refine VW.join (fun s => ∃ (x16 : (List Int)), s = ⟨[(3, .lf (.hd 0 0 none))], [ar 0 (.int .i64) x16 .dp]⟩ ∧ F83_j0 N x16 = some r) ?_ ?_
  · refine VW.seq ?_
    refine VW.region ?_
    refine VO.seg T_ok .dp 1 [0, 3, 4] [] (s' := ⟨[(0, .lf (.v (.sl (.int .i64)) a0)), (3, .lf (.nil)), (4, I (0 : Int))], []⟩) (φ := True ∧ True) (by kernel_rfl) ⟨trivial, trivial⟩ ?_
    refine VO.nil ?_
    show VW _ _ _ _ _ _ _
    refine VW.block ?_
    refine VW.loopL (fun k s => ∃ (x22 : (List Int)) (x23 : Int), s = ⟨[(0, .lf (.v (.sl (.int .i64)) a0)), (3, .lf (.hd 0 0 none)), (4, I x23)], [ar 0 (.int .i64) x22 .dp]⟩ ∧ F83_l0 N a0 k x22 x23 = some r) N [.nilS 3 (.int .i64) .dp, .ren [0, 3, 4] [0]] (by kernel_rfl) ⟨[], (0 : Int), rfl, h⟩ ?_
    rintro k28 s ⟨x22, x23, rfl, h⟩
    cases k28 with
    | zero => exact nomatch (show (none : Option ((List Int))) = some r from h)
    | succ k28 =>
      replace h : F83_l0_b N a0 (F83_l0 N a0 k28) x22 x23 = some r := h
      unfold F83_l0_b at h
      refine VW.seq ?_
      refine VW.seq ?_
      refine VW.region ?_
      refine VO.seg T_ok .dp 4 [0, 3, 4, 9] [0] (s' := ⟨[(0, .lf (.v (.sl (.int .i64)) a0)), (3, .lf (.hd 0 0 none)), (4, I x23), (9, B (decide (x23 < (a0.length : Int))))], [ar 0 (.int .i64) x22 .dp]⟩) (φ := True ∧ True ∧ True ∧ True ∧ True) (by kernel_rfl) ⟨trivial, trivial, trivial, trivial, trivial⟩ ?_
      refine VO.nil ?_
      show VW _ _ _ _ _ _ _
      refine VW.cond (b := (decide (x23 < (a0.length : Int)))) (by kernel_rfl) (fun hb => ?_) (fun hb => ?_)
      · replace h := cond_t h hb; clear hb
        refine VW.skip ?_
        show VW _ _ _ _ _ _ _
        refine VW.seq ?_
        refine VW.block ?_
        refine VW.region ?_
        obtain ⟨g31, h⟩ := gd_some h
        obtain ⟨g32, h⟩ := gd_some h
        refine VO.seg T_ok .dp 8 [0, 3, 4] [0] (s' := ⟨[(0, .lf (.v (.sl (.int .i64)) a0)), (3, .lf (.hd 0 0 none)), (4, I x23)], [ar 0 (.int .i64) (x22 ++ ([(a0.getD x23.toNat (Ty.dflt (.int .i64)))])) .dp]⟩) (φ := True ∧ True ∧ True ∧ (InR x23 a0.length) ∧ True ∧ True ∧ (x22.length + ([(a0.getD x23.toNat (Ty.dflt (.int .i64)))]).length ≤ lim (.int .i64)) ∧ True ∧ True) (by kernel_rfl) ⟨trivial, trivial, trivial, g31, trivial, trivial, g32, trivial, trivial⟩ ?_
        refine VO.nil ?_
        show VW _ _ _ _ _ _ _
        refine VW.region ?_
        refine VO.seg T_ok .dp 3 [0, 3, 4] [0] (s' := ⟨[(0, .lf (.v (.sl (.int .i64)) a0)), (3, .lf (.hd 0 0 none)), (4, I (IntKind.i64.wrap (x23 + (1 : Int))))], [ar 0 (.int .i64) (x22 ++ ([(a0.getD x23.toNat (Ty.dflt (.int .i64)))])) .dp]⟩) (φ := True ∧ True ∧ True ∧ True) (by kernel_rfl) ⟨trivial, trivial, trivial, trivial⟩ ?_
        refine VO.nil ?_
        exact around [.ren [0, 3, 4] [0]] (by kernel_rfl) ⟨(x22 ++ ([(a0.getD x23.toNat (Ty.dflt (.int .i64)))])), (IntKind.i64.wrap (x23 + (1 : Int))), rfl, h⟩
      · replace h := cond_f h hb; clear hb
        refine VW.exit ?_
        exact arrive [.ren [3] [0]] (by kernel_rfl) ⟨x22, rfl, h⟩
  · rintro s ⟨x16, rfl, h⟩
    unfold F83_j0 at h
    refine VW.seq ?_
    refine VW.region ?_
    refine VO.seg T_ok .dp 2 [2] [0] (s' := ⟨[(2, .lf (.hd 0 0 none))], [ar 0 (.int .i64) x16 .dp]⟩) (φ := True ∧ True ∧ True) (by kernel_rfl) ⟨trivial, trivial, trivial⟩ ?_
    refine VO.nil ?_
    show VW _ _ _ _ _ _ _
    refine VW.ret ?_
    replace h := Option.some.inj h
    subst h
    exact retR [some 0] (by kernel_rfl) rfl

/- loop.example/g00844/spec.l02Copy -/
def F53_j0 (N : Nat) (x100 : (List (Int × (ByteArray × (Int × (Int × (Int × (Bool × (List Int))))))))) : Option ((List (Int × (ByteArray × (Int × (Int × (Int × (Bool × (List Int))))))))) :=
  some x100
def F53_j1 (N : Nat) (nx168 : (List (Int × (ByteArray × (Int × (Int × (Int × (Bool × (List Int)))))))) → Int → Option ((List (Int × (ByteArray × (Int × (Int × (Int × (Bool × (List Int)))))))))) (x134 : (List (Int × (ByteArray × (Int × (Int × (Int × (Bool × (List Int))))))))) (x135 : Int) (x189 : Int) (x190 : ByteArray) (x191 : Int) (x192 : Int) (x193 : Int) (x194 : Bool) (x195 : (List Int)) : Option ((List (Int × (ByteArray × (Int × (Int × (Int × (Bool × (List Int))))))))) :=
  gd (x134.length + ([(x189, (x190, (x191, (x192, (x193, (x194, x195))))))]).length ≤ lim Y35) (nx168 (x134 ++ ([(x189, (x190, (x191, (x192, (x193, (x194, x195))))))])) (IntKind.i64.wrap (x135 + (1 : Int))))
def F53_l0_b (N : Nat) (a0 : (List (Int × (ByteArray × (Int × (Int × (Int × (Bool × (List Int))))))))) (nx168 : (List (Int × (ByteArray × (Int × (Int × (Int × (Bool × (List Int)))))))) → Int → Option ((List (Int × (ByteArray × (Int × (Int × (Int × (Bool × (List Int)))))))))) (x134 : (List (Int × (ByteArray × (Int × (Int × (Int × (Bool × (List Int))))))))) (x135 : Int) : Option ((List (Int × (ByteArray × (Int × (Int × (Int × (Bool × (List Int))))))))) :=
  cond (decide (x135 < (a0.length : Int))) (gd (InR x135 a0.length) (gd (InR x135 a0.length) (cond (decide ((((a0.getD x135.toNat (Ty.dflt Y35)).2.2.2.2.2.2).length : Int) > (0 : Int))) (gd (InR x135 a0.length) (andO (F83 N ((a0.getD x135.toNat (Ty.dflt Y35)).2.2.2.2.2.2)) fun y200 => F53_j1 N nx168 x134 x135 ((a0.getD x135.toNat (Ty.dflt Y35)).1) ((a0.getD x135.toNat (Ty.dflt Y35)).2.1) ((a0.getD x135.toNat (Ty.dflt Y35)).2.2.1) ((a0.getD x135.toNat (Ty.dflt Y35)).2.2.2.1) ((a0.getD x135.toNat (Ty.dflt Y35)).2.2.2.2.1) ((a0.getD x135.toNat (Ty.dflt Y35)).2.2.2.2.2.1) y200)) (F53_j1 N nx168 x134 x135 ((a0.getD x135.toNat (Ty.dflt Y35)).1) ((a0.getD x135.toNat (Ty.dflt Y35)).2.1) ((a0.getD x135.toNat (Ty.dflt Y35)).2.2.1) ((a0.getD x135.toNat (Ty.dflt Y35)).2.2.2.1) ((a0.getD x135.toNat (Ty.dflt Y35)).2.2.2.2.1) ((a0.getD x135.toNat (Ty.dflt Y35)).2.2.2.2.2.1) ([]))))) (F53_j0 N x134)
def F53_l0 (N : Nat) (a0 : (List (Int × (ByteArray × (Int × (Int × (Int × (Bool × (List Int))))))))) : Nat → (List (Int × (ByteArray × (Int × (Int × (Int × (Bool × (List Int)))))))) → Int → Option ((List (Int × (ByteArray × (Int × (Int × (Int × (Bool × (List Int))))))))) := loopF (F53_l0_b N a0) (fun _ _ => none)
theorem F53_l0_s (N : Nat) (a0 : (List (Int × (ByteArray × (Int × (Int × (Int × (Bool × (List Int))))))))) {k : Nat} (hk : 0 < k) (x134 : (List (Int × (ByteArray × (Int × (Int × (Int × (Bool × (List Int))))))))) (x135 : Int) : F53_l0 N a0 k x134 x135 = F53_l0_b N a0 (F53_l0 N a0 (k - 1)) x134 x135 := by
  cases k with
  | zero => exact absurd hk (Nat.lt_irrefl 0)
  | succ m => rfl
def F53 (N : Nat) (a0 : (List (Int × (ByteArray × (Int × (Int × (Int × (Bool × (List Int))))))))) : Option ((List (Int × (ByteArray × (Int × (Int × (Int × (Bool × (List Int))))))))) :=
  F53_l0 N a0 N ([]) (0 : Int)
theorem ok53 (N : Nat) (a0 : (List (Int × (ByteArray × (Int × (Int × (Int × (Bool × (List Int))))))))) {r : (List (Int × (ByteArray × (Int × (Int × (Int × (Bool × (List Int))))))))} (h : F53 N a0 = some r) : Con Go.Proofs.Try.prog 53 [.lf (.v (.sl Y35) a0)] [.lf (.own Y35 r .tp)] := by
  refine ⟨enters_of Go.Proofs.Try.func53 rfl (by decide), HC.intro [.lf (.own Y35 .tp)] T_ok Go.Proofs.Try.func53 rfl (Nat.le_of_ble_eq_true rfl) (Nat.le_of_ble_eq_true rfl) fun w0 E0 => ?_⟩
  unfold F53 at h
  show VW _ _ _ _ _ (retQ _ _ _ _) _
  refine VW.seq ?_
  refine VW.region ?_
  refine VO.seg T_ok .dp 1 [0] [] (s' := ⟨[(0, .lf (.v (.sl Y35) a0))], []⟩) (φ := True ∧ True) (by kernel_rfl) ⟨trivial, trivial⟩ ?_
  refine VO.nil ?_
  show VW _ _ _ _ _ _ _
  refine VW.seq ?_
  refine VW.region ?_
  refine VO.seg T_ok .dp 2 [0, 3] [] (s' := ⟨[(0, .lf (.v (.sl Y35) a0)), (3, .lf (.nil))], []⟩) (φ := True ∧ True ∧ True) (by kernel_rfl) ⟨trivial, trivial, trivial⟩ ?_
  refine VO.nil ?_
  show VW _ _ _ _ _ _ _
  refine VW.join (fun s => ∃ (x100 : (List (Int × (ByteArray × (Int × (Int × (Int × (Bool × (List Int))))))))), s = ⟨[(3, .lf (.hd 0 0 none))], [ar 0 Y35 x100 .tp]⟩ ∧ F53_j0 N x100 = some r) ?_ ?_
  · refine VW.seq ?_
    refine VW.region ?_
    refine VO.seg T_ok .dp 1 [0, 3, 4] [] (s' := ⟨[(0, .lf (.v (.sl Y35) a0)), (3, .lf (.nil)), (4, I (0 : Int))], []⟩) (φ := True ∧ True) (by kernel_rfl) ⟨trivial, trivial⟩ ?_
    refine VO.nil ?_
    show VW _ _ _ _ _ _ _
    refine VW.block ?_
    refine VW.loopL (fun k s => ∃ (x134 : (List (Int × (ByteArray × (Int × (Int × (Int × (Bool × (List Int))))))))) (x135 : Int), s = ⟨[(0, .lf (.v (.sl Y35) a0)), (3, .lf (.hd 0 0 none)), (4, I x135)], [ar 0 Y35 x134 .tp]⟩ ∧ F53_l0 N a0 k x134 x135 = some r) N [.nilS 3 Y35 .tp, .ren [0, 3, 4] [0]] (by kernel_rfl) ⟨[], (0 : Int), rfl, h⟩ ?_
    rintro k168 s ⟨x134, x135, rfl, h⟩
    cases k168 with
    | zero => exact nomatch (show (none : Option ((List (Int × (ByteArray × (Int × (Int × (Int × (Bool × (List Int)))))))))) = some r from h)
    | succ k168 =>
      replace h : F53_l0_b N a0 (F53_l0 N a0 k168) x134 x135 = some r := h
      unfold F53_l0_b at h
      refine VW.seq ?_
      refine VW.seq ?_
      refine VW.region ?_
      refine VO.seg T_ok .dp 4 [0, 3, 4, 10] [0] (s' := ⟨[(0, .lf (.v (.sl Y35) a0)), (3, .lf (.hd 0 0 none)), (4, I x135), (10, B (decide (x135 < (a0.length : Int))))], [ar 0 Y35 x134 .tp]⟩) (φ := True ∧ True ∧ True ∧ True ∧ True) (by kernel_rfl) ⟨trivial, trivial, trivial, trivial, trivial⟩ ?_
      refine VO.nil ?_
      show VW _ _ _ _ _ _ _
      refine VW.cond (b := (decide (x135 < (a0.length : Int)))) (by kernel_rfl) (fun hb => ?_) (fun hb => ?_)
      · replace h := cond_t h hb; clear hb
        refine VW.skip ?_
        show VW _ _ _ _ _ _ _
        refine VW.seq ?_
        refine VW.block ?_
        refine VW.seq ?_
        refine VW.region ?_
        obtain ⟨g185, h⟩ := gd_some h
        refine VO.seg T_ok .dp 6 [0, 3, 4, 5] [0, 1] (s' := ⟨[(0, .lf (.v (.sl Y35) a0)), (3, .lf (.hd 0 0 none)), (4, I x135), (5, .lf (.ptr 1 0 0 0))], [ar 0 Y35 x134 .tp, bx [.v (.int .i64) ((a0.getD x135.toNat (Ty.dflt Y35)).1), .v .str ((a0.getD x135.toNat (Ty.dflt Y35)).2.1), .v (.int .i64) ((a0.getD x135.toNat (Ty.dflt Y35)).2.2.1), .v (.int .i64) ((a0.getD x135.toNat (Ty.dflt Y35)).2.2.2.1), .v (.int .i64) ((a0.getD x135.toNat (Ty.dflt Y35)).2.2.2.2.1), .v .bool ((a0.getD x135.toNat (Ty.dflt Y35)).2.2.2.2.2.1), .v (.sl (.int .i64)) ((a0.getD x135.toNat (Ty.dflt Y35)).2.2.2.2.2.2)] 37]⟩) (φ := True ∧ True ∧ (InR x135 a0.length) ∧ True ∧ True ∧ True ∧ True) (by kernel_rfl) ⟨trivial, trivial, g185, trivial, trivial, trivial, trivial⟩ ?_
        refine VO.nil ?_
        show VW _ _ _ _ _ _ _
        refine VW.seq ?_
        refine VW.region ?_
        refine VO.seg T_ok .dp 2 [0, 3, 4, 5] [0, 1] (s' := ⟨[(0, .lf (.v (.sl Y35) a0)), (3, .lf (.hd 0 0 none)), (4, I x135), (5, .lf (.ptr 1 0 0 0))], [ar 0 Y35 x134 .tp, bx [.v (.int .i64) ((a0.getD x135.toNat (Ty.dflt Y35)).1), .v .str ((a0.getD x135.toNat (Ty.dflt Y35)).2.1), .v (.int .i64) ((a0.getD x135.toNat (Ty.dflt Y35)).2.2.1), .v (.int .i64) ((a0.getD x135.toNat (Ty.dflt Y35)).2.2.2.1), .v (.int .i64) ((a0.getD x135.toNat (Ty.dflt Y35)).2.2.2.2.1), .v .bool ((a0.getD x135.toNat (Ty.dflt Y35)).2.2.2.2.2.1), .nil] 37]⟩) (φ := True ∧ True ∧ True) (by kernel_rfl) ⟨trivial, trivial, trivial⟩ ?_
        refine VO.nil ?_
        show VW _ _ _ _ _ _ _
        refine VW.join (fun s => ∃ (x189 : Int) (x190 : ByteArray) (x191 : Int) (x192 : Int) (x193 : Int) (x194 : Bool) (x195 : (List Int)), s = ⟨[(0, .lf (.v (.sl Y35) a0)), (3, .lf (.hd 0 0 none)), (4, I x135), (5, .lf (.ptr 1 0 0 0))], [ar 0 Y35 x134 .tp, bx [.v (.int .i64) x189, .v .str x190, .v (.int .i64) x191, .v (.int .i64) x192, .v (.int .i64) x193, .v .bool x194, .hd 2 0 none] 37, ar 0 (.int .i64) x195 .dp]⟩ ∧ F53_j1 N (F53_l0 N a0 k168) x134 x135 x189 x190 x191 x192 x193 x194 x195 = some r) ?_ ?_
        · refine VW.seq ?_
          refine VW.region ?_
          obtain ⟨g198, h⟩ := gd_some h
          refine VO.seg T_ok .dp 7 [0, 3, 4, 5, 24] [0, 1] (s' := ⟨[(0, .lf (.v (.sl Y35) a0)), (3, .lf (.hd 0 0 none)), (4, I x135), (5, .lf (.ptr 1 0 0 0)), (24, B (decide ((((a0.getD x135.toNat (Ty.dflt Y35)).2.2.2.2.2.2).length : Int) > (0 : Int))))], [ar 0 Y35 x134 .tp, bx [.v (.int .i64) ((a0.getD x135.toNat (Ty.dflt Y35)).1), .v .str ((a0.getD x135.toNat (Ty.dflt Y35)).2.1), .v (.int .i64) ((a0.getD x135.toNat (Ty.dflt Y35)).2.2.1), .v (.int .i64) ((a0.getD x135.toNat (Ty.dflt Y35)).2.2.2.1), .v (.int .i64) ((a0.getD x135.toNat (Ty.dflt Y35)).2.2.2.2.1), .v .bool ((a0.getD x135.toNat (Ty.dflt Y35)).2.2.2.2.2.1), .nil] 37]⟩) (φ := True ∧ True ∧ (InR x135 a0.length) ∧ True ∧ True ∧ True ∧ True ∧ True) (by kernel_rfl) ⟨trivial, trivial, g198, trivial, trivial, trivial, trivial, trivial⟩ ?_
          refine VO.nil ?_
          show VW _ _ _ _ _ _ _
          refine VW.cond (b := (decide ((((a0.getD x135.toNat (Ty.dflt Y35)).2.2.2.2.2.2).length : Int) > (0 : Int)))) (by kernel_rfl) (fun hb => ?_) (fun hb => ?_)
          · replace h := cond_t h hb; clear hb
            refine VW.region ?_
            obtain ⟨g199, h⟩ := gd_some h
            refine VO.seg T_ok .dp 5 [0, 3, 4, 5, 29] [0, 1] (s' := ⟨[(0, .lf (.v (.sl Y35) a0)), (3, .lf (.hd 0 0 none)), (4, I x135), (5, .lf (.ptr 1 0 0 0)), (29, .lf (.v (.sl (.int .i64)) ((a0.getD x135.toNat (Ty.dflt Y35)).2.2.2.2.2.2)))], [ar 0 Y35 x134 .tp, bx [.v (.int .i64) ((a0.getD x135.toNat (Ty.dflt Y35)).1), .v .str ((a0.getD x135.toNat (Ty.dflt Y35)).2.1), .v (.int .i64) ((a0.getD x135.toNat (Ty.dflt Y35)).2.2.1), .v (.int .i64) ((a0.getD x135.toNat (Ty.dflt Y35)).2.2.2.1), .v (.int .i64) ((a0.getD x135.toNat (Ty.dflt Y35)).2.2.2.2.1), .v .bool ((a0.getD x135.toNat (Ty.dflt Y35)).2.2.2.2.2.1), .nil] 37]⟩) (φ := True ∧ True ∧ (InR x135 a0.length) ∧ True ∧ True ∧ True) (by kernel_rfl) ⟨trivial, trivial, g199, trivial, trivial, trivial⟩ ?_
            obtain ⟨y200, hy, h⟩ := andO_some h
            refine VO.call false [.t (.sl (.int .i64))] [] T_ok (d := some 30) (by kernel_rfl) (ok83 N _ hy) rfl ?_
            refine VO.seg T_ok .dp 2 [0, 3, 4, 5] [0, 1, 2] (s' := ⟨[(0, .lf (.v (.sl Y35) a0)), (3, .lf (.hd 0 0 none)), (4, I x135), (5, .lf (.ptr 1 0 0 0))], [ar 0 Y35 x134 .tp, bx [.v (.int .i64) ((a0.getD x135.toNat (Ty.dflt Y35)).1), .v .str ((a0.getD x135.toNat (Ty.dflt Y35)).2.1), .v (.int .i64) ((a0.getD x135.toNat (Ty.dflt Y35)).2.2.1), .v (.int .i64) ((a0.getD x135.toNat (Ty.dflt Y35)).2.2.2.1), .v (.int .i64) ((a0.getD x135.toNat (Ty.dflt Y35)).2.2.2.2.1), .v .bool ((a0.getD x135.toNat (Ty.dflt Y35)).2.2.2.2.2.1), .hd 2 0 none] 37, ar 0 (.int .i64) y200 .dp]⟩) (φ := True ∧ True ∧ True) (by kernel_rfl) ⟨trivial, trivial, trivial⟩ ?_
            refine VO.nil ?_
            exact arrive [.ren [0, 3, 4, 5] [0, 1, 2]] (by kernel_rfl) ⟨(a0.getD x135.toNat (Ty.dflt Y35)).1, (a0.getD x135.toNat (Ty.dflt Y35)).2.1, (a0.getD x135.toNat (Ty.dflt Y35)).2.2.1, (a0.getD x135.toNat (Ty.dflt Y35)).2.2.2.1, (a0.getD x135.toNat (Ty.dflt Y35)).2.2.2.2.1, (a0.getD x135.toNat (Ty.dflt Y35)).2.2.2.2.2.1, y200, rfl, h⟩
          · replace h := cond_f h hb; clear hb
            refine VW.skip ?_
            exact arrive [.nil 1 6 (.int .i64) .dp, .ren [0, 3, 4, 5] [0, 1, 2]] (by kernel_rfl) ⟨(a0.getD x135.toNat (Ty.dflt Y35)).1, (a0.getD x135.toNat (Ty.dflt Y35)).2.1, (a0.getD x135.toNat (Ty.dflt Y35)).2.2.1, (a0.getD x135.toNat (Ty.dflt Y35)).2.2.2.1, (a0.getD x135.toNat (Ty.dflt Y35)).2.2.2.2.1, (a0.getD x135.toNat (Ty.dflt Y35)).2.2.2.2.2.1, [], rfl, h⟩
        · rintro s ⟨x189, x190, x191, x192, x193, x194, x195, rfl, h⟩
          unfold F53_j1 at h
          refine VW.region ?_
          refine VO.seg T_ok .dp 2 [0, 4, 32, 33] [0, 2] (s' := ⟨[(0, .lf (.v (.sl Y35) a0)), (4, I x135), (32, .lf (.hd 0 0 none)), (33, .agg [.v (.int .i64) x189, .v .str x190, .v (.int .i64) x191, .v (.int .i64) x192, .v (.int .i64) x193, .v .bool x194, .hd 1 0 none])], [ar 0 Y35 x134 .tp, ar 0 (.int .i64) x195 .dp]⟩) (φ := True ∧ True ∧ True) (by kernel_rfl) ⟨trivial, trivial, trivial⟩ ?_
          refine VO.ghl [.frz 1] ?_
          obtain ⟨g196, h⟩ := gd_some h
          refine VO.seg T_ok .dp 3 [0, 3, 4] [0] (s' := ⟨[(0, .lf (.v (.sl Y35) a0)), (3, .lf (.hd 0 0 none)), (4, I x135)], [ar 0 Y35 (x134 ++ ([(x189, (x190, (x191, (x192, (x193, (x194, x195))))))])) .tp]⟩) (φ := True ∧ (x134.length + ([(x189, (x190, (x191, (x192, (x193, (x194, x195))))))]).length ≤ lim Y35) ∧ True ∧ True) (by kernel_rfl) ⟨trivial, g196, trivial, trivial⟩ ?_
          refine VO.nil ?_
          show VW _ _ _ _ _ _ _
          refine VW.region ?_
          refine VO.seg T_ok .dp 3 [0, 3, 4] [0] (s' := ⟨[(0, .lf (.v (.sl Y35) a0)), (3, .lf (.hd 0 0 none)), (4, I (IntKind.i64.wrap (x135 + (1 : Int))))], [ar 0 Y35 (x134 ++ ([(x189, (x190, (x191, (x192, (x193, (x194, x195))))))])) .tp]⟩) (φ := True ∧ True ∧ True ∧ True) (by kernel_rfl) ⟨trivial, trivial, trivial, trivial⟩ ?_
          refine VO.nil ?_
          exact around [.ren [0, 3, 4] [0]] (by kernel_rfl) ⟨(x134 ++ ([(x189, (x190, (x191, (x192, (x193, (x194, x195))))))])), (IntKind.i64.wrap (x135 + (1 : Int))), rfl, h⟩
      · replace h := cond_f h hb; clear hb
        refine VW.exit ?_
        exact arrive [.ren [3] [0]] (by kernel_rfl) ⟨x134, rfl, h⟩
  · rintro s ⟨x100, rfl, h⟩
    unfold F53_j0 at h
    refine VW.seq ?_
    refine VW.region ?_
    refine VO.seg T_ok .dp 2 [2] [0] (s' := ⟨[(2, .lf (.hd 0 0 none))], [ar 0 Y35 x100 .tp]⟩) (φ := True ∧ True ∧ True) (by kernel_rfl) ⟨trivial, trivial, trivial⟩ ?_
    refine VO.nil ?_
    show VW _ _ _ _ _ _ _
    refine VW.ret ?_
    replace h := Option.some.inj h
    subst h
    exact retR [some 0] (by kernel_rfl) rfl

/- loop.example/g00844/spec.l07Literal -/
def F54 (N : Nat) (a0 : (Int × (ByteArray × (Int × (Int × (Int × (Bool × (List Int)))))))) : Option (Bool) :=
  cond (a0.1 == (1 : Int)) (cond (a0.2.2.2.1 != (3 : Int)) (some true) (some (a0.1 == (6 : Int)))) (some (a0.1 == (6 : Int)))
theorem ok54 (N : Nat) (a0 : (Int × (ByteArray × (Int × (Int × (Int × (Bool × (List Int)))))))) {r : Bool} (h : F54 N a0 = some r) : Con Go.Proofs.Try.prog 54 [.agg [.v (.int .i64) a0.1, .v .str a0.2.1, .v (.int .i64) a0.2.2.1, .v (.int .i64) a0.2.2.2.1, .v (.int .i64) a0.2.2.2.2.1, .v .bool a0.2.2.2.2.2.1, .v (.sl (.int .i64)) a0.2.2.2.2.2.2]] [.lf (.v .bool r)] := by
  refine ⟨enters_of Go.Proofs.Try.func54 rfl (by decide), HC.intro [.lf (.v .bool)] T_ok Go.Proofs.Try.func54 rfl (Nat.le_of_ble_eq_true rfl) (Nat.le_of_ble_eq_true rfl) fun w0 E0 => ?_⟩
  unfold F54 at h
  show VW _ _ _ _ _ (retQ _ _ _ _) _
  refine VW.seq ?_
  refine VW.region ?_
  refine VO.seg T_ok .dp 2 [1] [0] (s' := ⟨[(1, .lf (.ptr 0 0 0 0))], [bx [.v (.int .i64) a0.1, .v .str a0.2.1, .v (.int .i64) a0.2.2.1, .v (.int .i64) a0.2.2.2.1, .v (.int .i64) a0.2.2.2.2.1, .v .bool a0.2.2.2.2.2.1, .v (.sl (.int .i64)) a0.2.2.2.2.2.2] 37]⟩) (φ := True ∧ True ∧ True) (by kernel_rfl) ⟨trivial, trivial, trivial⟩ ?_
  refine VO.nil ?_
  show VW _ _ _ _ _ _ _
  refine VW.seq ?_
  refine VW.region ?_
  refine VO.seg T_ok .dp 4 [1, 6] [0] (s' := ⟨[(1, .lf (.ptr 0 0 0 0)), (6, B (a0.1 == (1 : Int)))], [bx [.v (.int .i64) a0.1, .v .str a0.2.1, .v (.int .i64) a0.2.2.1, .v (.int .i64) a0.2.2.2.1, .v (.int .i64) a0.2.2.2.2.1, .v .bool a0.2.2.2.2.2.1, .v (.sl (.int .i64)) a0.2.2.2.2.2.2] 37]⟩) (φ := True ∧ True ∧ True ∧ True ∧ True) (by kernel_rfl) ⟨trivial, trivial, trivial, trivial, trivial⟩ ?_
  refine VO.splitB 6 (b := (a0.1 == (1 : Int))) (by kernel_rfl) (fun hb => ?_) (fun hb => ?_)
  · replace h := cond_t h hb; clear hb
    refine VO.seg T_ok .dp 5 [1, 11] [0] (s' := ⟨[(1, .lf (.ptr 0 0 0 0)), (11, B (a0.2.2.2.1 != (3 : Int)))], [bx [.v (.int .i64) a0.1, .v .str a0.2.1, .v (.int .i64) a0.2.2.1, .v (.int .i64) a0.2.2.2.1, .v (.int .i64) a0.2.2.2.2.1, .v .bool a0.2.2.2.2.2.1, .v (.sl (.int .i64)) a0.2.2.2.2.2.2] 37]⟩) (φ := True ∧ True ∧ True ∧ True ∧ True ∧ True) (by kernel_rfl) ⟨trivial, trivial, trivial, trivial, trivial, trivial⟩ ?_
    refine VO.splitB 11 (b := (a0.2.2.2.1 != (3 : Int))) (by kernel_rfl) (fun hb => ?_) (fun hb => ?_)
    · replace h := cond_t h hb; clear hb
      refine VO.seg T_ok .dp 5 [2] [] (s' := ⟨[(2, B true)], []⟩) (φ := True ∧ True ∧ True ∧ True ∧ True ∧ True) (by kernel_rfl) ⟨trivial, trivial, trivial, trivial, trivial, trivial⟩ ?_
      refine VO.nil ?_
      show VW _ _ _ _ _ _ _
      refine VW.ret ?_
      replace h := Option.some.inj h
      subst h
      exact retR [] (by kernel_rfl) rfl
    · replace h := cond_f h hb; clear hb
      refine VO.seg T_ok .dp 5 [2] [] (s' := ⟨[(2, B (a0.1 == (6 : Int)))], []⟩) (φ := True ∧ True ∧ True ∧ True ∧ True ∧ True) (by kernel_rfl) ⟨trivial, trivial, trivial, trivial, trivial, trivial⟩ ?_
      refine VO.nil ?_
      show VW _ _ _ _ _ _ _
      refine VW.ret ?_
      replace h := Option.some.inj h
      subst h
      exact retR [] (by kernel_rfl) rfl
  · replace h := cond_f h hb; clear hb
    refine VO.seg T_ok .dp 10 [2] [] (s' := ⟨[(2, B (a0.1 == (6 : Int)))], []⟩) (φ := True ∧ True ∧ True ∧ True ∧ True ∧ True ∧ True ∧ True ∧ True ∧ True ∧ True) (by kernel_rfl) ⟨trivial, trivial, trivial, trivial, trivial, trivial, trivial, trivial, trivial, trivial, trivial⟩ ?_
    refine VO.nil ?_
    show VW _ _ _ _ _ _ _
    refine VW.ret ?_
    replace h := Option.some.inj h
    subst h
    exact retR [] (by kernel_rfl) rfl

/- loop.example/g00844/spec.Lift -/
def F29_j0 (N : Nat) (x95 : (List (Int × (ByteArray × (Int × (Int × (Int × (Bool × (List Int))))))))) (x96 : (List Int)) : Option ((List (Int × (ByteArray × (Int × (Int × (Int × (Bool × (List Int)))))))) × (List Int) × Bool) :=
  some (x95, x96, true)
def F29_j1 (N : Nat) (nx159 : (List (Int × (ByteArray × (Int × (Int × (Int × (Bool × (List Int)))))))) → (List Int) → Int → Option ((List (Int × (ByteArray × (Int × (Int × (Int × (Bool × (List Int)))))))) × (List Int) × Bool)) (x129 : Int) (x173 : (List (Int × (ByteArray × (Int × (Int × (Int × (Bool × (List Int))))))))) (x174 : (List Int)) : Option ((List (Int × (ByteArray × (Int × (Int × (Int × (Bool × (List Int)))))))) × (List Int) × Bool) :=
  nx159 x173 x174 (IntKind.i64.wrap (x129 + (1 : Int)))
def F29_l0_b (N : Nat) (nx159 : (List (Int × (ByteArray × (Int × (Int × (Int × (Bool × (List Int)))))))) → (List Int) → Int → Option ((List (Int × (ByteArray × (Int × (Int × (Int × (Bool × (List Int)))))))) × (List Int) × Bool)) (x127 : (List (Int × (ByteArray × (Int × (Int × (Int × (Bool × (List Int))))))))) (x128 : (List Int)) (x129 : Int) : Option ((List (Int × (ByteArray × (Int × (Int × (Int × (Bool × (List Int)))))))) × (List Int) × Bool) :=
  cond (decide (x129 < (x127.length : Int))) (gd (InR x129 x127.length) (gd (x129.toNat < x127.length) (andO (F54 N (x127.getD x129.toNat (Ty.dflt Y35))) fun y181 => cond (!y181) (F29_j1 N nx159 x129 x127 x128) (gd (InR x129 x127.length) (gd (x129.toNat < x127.length) (gd (x128.length + ([(x127.getD x129.toNat (Ty.dflt Y35)).2.2.2.2.1]).length ≤ lim (.int .i64)) (gd (InR x129 x127.length) (gd (x129.toNat < x127.length) (gd (InR x129 (x127.set x129.toNat ((x127.getD x129.toNat (Ty.dflt Y35)).1, ((x127.getD x129.toNat (Ty.dflt Y35)).2.1, ((x127.getD x129.toNat (Ty.dflt Y35)).2.2.1, ((x127.getD x129.toNat (Ty.dflt Y35)).2.2.2.1, ((x127.getD x129.toNat (Ty.dflt Y35)).2.2.2.2.1, (true, (x127.getD x129.toNat (Ty.dflt Y35)).2.2.2.2.2.2))))))).length) (gd (x129.toNat < (x127.set x129.toNat ((x127.getD x129.toNat (Ty.dflt Y35)).1, ((x127.getD x129.toNat (Ty.dflt Y35)).2.1, ((x127.getD x129.toNat (Ty.dflt Y35)).2.2.1, ((x127.getD x129.toNat (Ty.dflt Y35)).2.2.2.1, ((x127.getD x129.toNat (Ty.dflt Y35)).2.2.2.2.1, (true, (x127.getD x129.toNat (Ty.dflt Y35)).2.2.2.2.2.2))))))).length) (F29_j1 N nx159 x129 ((x127.set x129.toNat ((x127.getD x129.toNat (Ty.dflt Y35)).1, ((x127.getD x129.toNat (Ty.dflt Y35)).2.1, ((x127.getD x129.toNat (Ty.dflt Y35)).2.2.1, ((x127.getD x129.toNat (Ty.dflt Y35)).2.2.2.1, ((x127.getD x129.toNat (Ty.dflt Y35)).2.2.2.2.1, (true, (x127.getD x129.toNat (Ty.dflt Y35)).2.2.2.2.2.2))))))).set x129.toNat (((x127.set x129.toNat ((x127.getD x129.toNat (Ty.dflt Y35)).1, ((x127.getD x129.toNat (Ty.dflt Y35)).2.1, ((x127.getD x129.toNat (Ty.dflt Y35)).2.2.1, ((x127.getD x129.toNat (Ty.dflt Y35)).2.2.2.1, ((x127.getD x129.toNat (Ty.dflt Y35)).2.2.2.2.1, (true, (x127.getD x129.toNat (Ty.dflt Y35)).2.2.2.2.2.2))))))).getD x129.toNat (Ty.dflt Y35)).1, (((x127.set x129.toNat ((x127.getD x129.toNat (Ty.dflt Y35)).1, ((x127.getD x129.toNat (Ty.dflt Y35)).2.1, ((x127.getD x129.toNat (Ty.dflt Y35)).2.2.1, ((x127.getD x129.toNat (Ty.dflt Y35)).2.2.2.1, ((x127.getD x129.toNat (Ty.dflt Y35)).2.2.2.2.1, (true, (x127.getD x129.toNat (Ty.dflt Y35)).2.2.2.2.2.2))))))).getD x129.toNat (Ty.dflt Y35)).2.1, (((x127.set x129.toNat ((x127.getD x129.toNat (Ty.dflt Y35)).1, ((x127.getD x129.toNat (Ty.dflt Y35)).2.1, ((x127.getD x129.toNat (Ty.dflt Y35)).2.2.1, ((x127.getD x129.toNat (Ty.dflt Y35)).2.2.2.1, ((x127.getD x129.toNat (Ty.dflt Y35)).2.2.2.2.1, (true, (x127.getD x129.toNat (Ty.dflt Y35)).2.2.2.2.2.2))))))).getD x129.toNat (Ty.dflt Y35)).2.2.1, (((x127.set x129.toNat ((x127.getD x129.toNat (Ty.dflt Y35)).1, ((x127.getD x129.toNat (Ty.dflt Y35)).2.1, ((x127.getD x129.toNat (Ty.dflt Y35)).2.2.1, ((x127.getD x129.toNat (Ty.dflt Y35)).2.2.2.1, ((x127.getD x129.toNat (Ty.dflt Y35)).2.2.2.2.1, (true, (x127.getD x129.toNat (Ty.dflt Y35)).2.2.2.2.2.2))))))).getD x129.toNat (Ty.dflt Y35)).2.2.2.1, ((IntKind.i64.wrap (((x128 ++ ([(x127.getD x129.toNat (Ty.dflt Y35)).2.2.2.2.1])).length : Int) - (1 : Int))), (((x127.set x129.toNat ((x127.getD x129.toNat (Ty.dflt Y35)).1, ((x127.getD x129.toNat (Ty.dflt Y35)).2.1, ((x127.getD x129.toNat (Ty.dflt Y35)).2.2.1, ((x127.getD x129.toNat (Ty.dflt Y35)).2.2.2.1, ((x127.getD x129.toNat (Ty.dflt Y35)).2.2.2.2.1, (true, (x127.getD x129.toNat (Ty.dflt Y35)).2.2.2.2.2.2))))))).getD x129.toNat (Ty.dflt Y35)).2.2.2.2.2.1, ((x127.set x129.toNat ((x127.getD x129.toNat (Ty.dflt Y35)).1, ((x127.getD x129.toNat (Ty.dflt Y35)).2.1, ((x127.getD x129.toNat (Ty.dflt Y35)).2.2.1, ((x127.getD x129.toNat (Ty.dflt Y35)).2.2.2.1, ((x127.getD x129.toNat (Ty.dflt Y35)).2.2.2.2.1, (true, (x127.getD x129.toNat (Ty.dflt Y35)).2.2.2.2.2.2))))))).getD x129.toNat (Ty.dflt Y35)).2.2.2.2.2.2))))))) (x128 ++ ([(x127.getD x129.toNat (Ty.dflt Y35)).2.2.2.2.1]))))))))))))) (F29_j0 N x127 x128)
def F29_l0 (N : Nat) : Nat → (List (Int × (ByteArray × (Int × (Int × (Int × (Bool × (List Int)))))))) → (List Int) → Int → Option ((List (Int × (ByteArray × (Int × (Int × (Int × (Bool × (List Int)))))))) × (List Int) × Bool) := loopF (F29_l0_b N) (fun _ _ _ => none)
theorem F29_l0_s (N : Nat) {k : Nat} (hk : 0 < k) (x127 : (List (Int × (ByteArray × (Int × (Int × (Int × (Bool × (List Int))))))))) (x128 : (List Int)) (x129 : Int) : F29_l0 N k x127 x128 x129 = F29_l0_b N (F29_l0 N (k - 1)) x127 x128 x129 := by
  cases k with
  | zero => exact absurd hk (Nat.lt_irrefl 0)
  | succ m => rfl
def F29 (N : Nat) (a0 : (List (Int × (ByteArray × (Int × (Int × (Int × (Bool × (List Int))))))))) : Option ((List (Int × (ByteArray × (Int × (Int × (Int × (Bool × (List Int)))))))) × (List Int) × Bool) :=
  andO (F12 N a0) fun y2 => cond (!y2) (some ([], [], false)) (andO (F53 N a0) fun y3 => F29_l0 N N y3 ([]) (0 : Int))
theorem ok29 (N : Nat) (a0 : (List (Int × (ByteArray × (Int × (Int × (Int × (Bool × (List Int))))))))) {r : (List (Int × (ByteArray × (Int × (Int × (Int × (Bool × (List Int)))))))) × (List Int) × Bool} (h : F29 N a0 = some r) : Con Go.Proofs.Try.prog 29 [.lf (.v (.sl Y35) a0)] [.lf (.own Y35 r.1 .tp), .lf (.own (.int .i64) r.2.1 .dp), .lf (.v .bool r.2.2)] := by
  refine ⟨enters_of Go.Proofs.Try.func29 rfl (by decide), HC.intro [.lf (.own Y35 .tp), .lf (.own (.int .i64) .dp), .lf (.v .bool)] T_ok Go.Proofs.Try.func29 rfl (Nat.le_of_ble_eq_true rfl) (Nat.le_of_ble_eq_true rfl) fun w0 E0 => ?_⟩
  unfold F29 at h
  show VW _ _ _ _ _ (retQ _ _ _ _) _
  refine VW.seq ?_
  refine VW.region ?_
  refine VO.seg T_ok .dp 3 [0] [] (s' := ⟨[(0, .lf (.v (.sl Y35) a0))], []⟩) (φ := True ∧ True ∧ True ∧ True) (by kernel_rfl) ⟨trivial, trivial, trivial, trivial⟩ ?_
  refine VO.nil ?_
  show VW _ _ _ _ _ _ _
  refine VW.seq ?_
  refine VW.seq ?_
  refine VW.region ?_
  refine VO.seg T_ok .dp 1 [0, 8] [] (s' := ⟨[(0, .lf (.v (.sl Y35) a0)), (8, .lf (.v (.sl Y35) a0))], []⟩) (φ := True ∧ True) (by kernel_rfl) ⟨trivial, trivial⟩ ?_
  obtain ⟨y2, hy, h⟩ := andO_some h
  refine VO.call false [.t (.sl Y35)] [] T_ok (d := some 9) (by kernel_rfl) (ok12 N _ hy) rfl ?_
  refine VO.seg T_ok .dp 1 [0, 10] [] (s' := ⟨[(0, .lf (.v (.sl Y35) a0)), (10, B (!y2))], []⟩) (φ := True ∧ True) (by kernel_rfl) ⟨trivial, trivial⟩ ?_
  refine VO.nil ?_
  show VW _ _ _ _ _ _ _
  refine VW.cond (b := (!y2)) (by kernel_rfl) (fun hb => ?_) (fun hb => ?_)
  · replace h := cond_t h hb; clear hb
    refine VW.seq ?_
    refine VW.region ?_
    refine VO.seg T_ok .dp 3 [2, 3, 4] [] (s' := ⟨[(2, .lf (.nil)), (3, .lf (.nil)), (4, B false)], []⟩) (φ := True ∧ True ∧ True ∧ True) (by kernel_rfl) ⟨trivial, trivial, trivial, trivial⟩ ?_
    refine VO.nil ?_
    show VW _ _ _ _ _ _ _
    refine VW.ret ?_
    replace h := Option.some.inj h
    subst h
    exact retR [none, none] (by kernel_rfl) rfl
  · replace h := cond_f h hb; clear hb
    refine VW.skip ?_
    show VW _ _ _ _ _ _ _
    refine VW.seq ?_
    refine VW.region ?_
    refine VO.seg T_ok .dp 1 [11] [] (s' := ⟨[(11, .lf (.v (.sl Y35) a0))], []⟩) (φ := True ∧ True) (by kernel_rfl) ⟨trivial, trivial⟩ ?_
    obtain ⟨y3, hy, h⟩ := andO_some h
    refine VO.call false [.t (.sl Y35)] [] T_ok (d := some 12) (by kernel_rfl) (ok53 N _ hy) rfl ?_
    refine VO.seg T_ok .dp 1 [5] [0] (s' := ⟨[(5, .lf (.hd 0 0 none))], [ar 0 Y35 y3 .tp]⟩) (φ := True ∧ True) (by kernel_rfl) ⟨trivial, trivial⟩ ?_
    refine VO.nil ?_
    show VW _ _ _ _ _ _ _
    refine VW.seq ?_
    refine VW.region ?_
    refine VO.seg T_ok .dp 2 [5, 6] [0] (s' := ⟨[(5, .lf (.hd 0 0 none)), (6, .lf (.nil))], [ar 0 Y35 y3 .tp]⟩) (φ := True ∧ True ∧ True) (by kernel_rfl) ⟨trivial, trivial, trivial⟩ ?_
    refine VO.nil ?_
    show VW _ _ _ _ _ _ _
    refine VW.join (fun s => ∃ (x95 : (List (Int × (ByteArray × (Int × (Int × (Int × (Bool × (List Int))))))))) (x96 : (List Int)), s = ⟨[(5, .lf (.hd 0 0 none)), (6, .lf (.hd 1 0 none))], [ar 0 Y35 x95 .tp, ar 0 (.int .i64) x96 .dp]⟩ ∧ F29_j0 N x95 x96 = some r) ?_ ?_
    · refine VW.seq ?_
      refine VW.region ?_
      refine VO.seg T_ok .dp 1 [5, 6, 7] [0] (s' := ⟨[(5, .lf (.hd 0 0 none)), (6, .lf (.nil)), (7, I (0 : Int))], [ar 0 Y35 y3 .tp]⟩) (φ := True ∧ True) (by kernel_rfl) ⟨trivial, trivial⟩ ?_
      refine VO.nil ?_
      show VW _ _ _ _ _ _ _
      refine VW.block ?_
      refine VW.loopL (fun k s => ∃ (x127 : (List (Int × (ByteArray × (Int × (Int × (Int × (Bool × (List Int))))))))) (x128 : (List Int)) (x129 : Int), s = ⟨[(5, .lf (.hd 0 0 none)), (6, .lf (.hd 1 0 none)), (7, I x129)], [ar 0 Y35 x127 .tp, ar 0 (.int .i64) x128 .dp]⟩ ∧ F29_l0 N k x127 x128 x129 = some r) N [.nilS 6 (.int .i64) .dp, .ren [5, 6, 7] [0, 1]] (by kernel_rfl) ⟨y3, [], (0 : Int), rfl, h⟩ ?_
      rintro k159 s ⟨x127, x128, x129, rfl, h⟩
      cases k159 with
      | zero => exact nomatch (show (none : Option ((List (Int × (ByteArray × (Int × (Int × (Int × (Bool × (List Int)))))))) × (List Int) × Bool)) = some r from h)
      | succ k159 =>
        replace h : F29_l0_b N (F29_l0 N k159) x127 x128 x129 = some r := h
        unfold F29_l0_b at h
        refine VW.seq ?_
        refine VW.seq ?_
        refine VW.region ?_
        refine VO.seg T_ok .dp 4 [5, 6, 7, 17] [0, 1] (s' := ⟨[(5, .lf (.hd 0 0 none)), (6, .lf (.hd 1 0 none)), (7, I x129), (17, B (decide (x129 < (x127.length : Int))))], [ar 0 Y35 x127 .tp, ar 0 (.int .i64) x128 .dp]⟩) (φ := True ∧ True ∧ True ∧ True ∧ True) (by kernel_rfl) ⟨trivial, trivial, trivial, trivial, trivial⟩ ?_
        refine VO.nil ?_
        show VW _ _ _ _ _ _ _
        refine VW.cond (b := (decide (x129 < (x127.length : Int)))) (by kernel_rfl) (fun hb => ?_) (fun hb => ?_)
        · replace h := cond_t h hb; clear hb
          refine VW.skip ?_
          show VW _ _ _ _ _ _ _
          refine VW.join (fun s => ∃ (x173 : (List (Int × (ByteArray × (Int × (Int × (Int × (Bool × (List Int))))))))) (x174 : (List Int)), s = ⟨[(5, .lf (.hd 0 0 none)), (6, .lf (.hd 1 0 none)), (7, I x129)], [ar 0 Y35 x173 .tp, ar 0 (.int .i64) x174 .dp]⟩ ∧ F29_j1 N (F29_l0 N k159) x129 x173 x174 = some r) ?_ ?_
          · refine VW.block ?_
            refine VW.seq ?_
            refine VW.seq ?_
            refine VW.region ?_
            obtain ⟨g179, h⟩ := gd_some h
            obtain ⟨g180, h⟩ := gd_some h
            refine VO.seg T_ok .dp 4 [5, 6, 7, 23] [0, 1] (s' := ⟨[(5, .lf (.hd 0 0 none)), (6, .lf (.hd 1 0 none)), (7, I x129), (23, .agg [.v (.int .i64) ((x127.getD x129.toNat (Ty.dflt Y35)).1), .v .str ((x127.getD x129.toNat (Ty.dflt Y35)).2.1), .v (.int .i64) ((x127.getD x129.toNat (Ty.dflt Y35)).2.2.1), .v (.int .i64) ((x127.getD x129.toNat (Ty.dflt Y35)).2.2.2.1), .v (.int .i64) ((x127.getD x129.toNat (Ty.dflt Y35)).2.2.2.2.1), .v .bool ((x127.getD x129.toNat (Ty.dflt Y35)).2.2.2.2.2.1), .v (.sl (.int .i64)) ((x127.getD x129.toNat (Ty.dflt Y35)).2.2.2.2.2.2)])], [ar 0 Y35 x127 .tp, ar 0 (.int .i64) x128 .dp]⟩) (φ := True ∧ True ∧ (InR x129 x127.length) ∧ (x129.toNat < x127.length) ∧ True) (by kernel_rfl) ⟨trivial, trivial, g179, g180, trivial⟩ ?_
            obtain ⟨y181, hy, h⟩ := andO_some h
            refine VO.call false [.t Y35] [] T_ok (d := some 24) (by kernel_rfl) (ok54 N _ hy) rfl ?_
            refine VO.seg T_ok .dp 1 [5, 6, 7, 25] [0, 1] (s' := ⟨[(5, .lf (.hd 0 0 none)), (6, .lf (.hd 1 0 none)), (7, I x129), (25, B (!y181))], [ar 0 Y35 x127 .tp, ar 0 (.int .i64) x128 .dp]⟩) (φ := True ∧ True) (by kernel_rfl) ⟨trivial, trivial⟩ ?_
            refine VO.nil ?_
            show VW _ _ _ _ _ _ _
            refine VW.cond (b := (!y181)) (by kernel_rfl) (fun hb => ?_) (fun hb => ?_)
            · replace h := cond_t h hb; clear hb
              refine VW.exit ?_
              exact arrive [.ren [5, 6, 7] [0, 1]] (by kernel_rfl) ⟨x127, x128, rfl, h⟩
            · replace h := cond_f h hb; clear hb
              refine VW.skip ?_
              show VW _ _ _ _ _ _ _
              refine VW.seq ?_
              refine VW.region ?_
              obtain ⟨g182, h⟩ := gd_some h
              obtain ⟨g183, h⟩ := gd_some h
              obtain ⟨g184, h⟩ := gd_some h
              refine VO.seg T_ok .dp 9 [5, 6, 7] [0, 1] (s' := ⟨[(5, .lf (.hd 0 0 none)), (6, .lf (.hd 1 0 none)), (7, I x129)], [ar 0 Y35 x127 .tp, ar 0 (.int .i64) (x128 ++ ([(x127.getD x129.toNat (Ty.dflt Y35)).2.2.2.2.1])) .dp]⟩) (φ := True ∧ True ∧ True ∧ (InR x129 x127.length) ∧ True ∧ (x129.toNat < x127.length) ∧ True ∧ (x128.length + ([(x127.getD x129.toNat (Ty.dflt Y35)).2.2.2.2.1]).length ≤ lim (.int .i64)) ∧ True ∧ True) (by kernel_rfl) ⟨trivial, trivial, trivial, g182, trivial, g183, trivial, g184, trivial, trivial⟩ ?_
              refine VO.nil ?_
              show VW _ _ _ _ _ _ _
              refine VW.seq ?_
              refine VW.region ?_
              obtain ⟨g185, h⟩ := gd_some h
              obtain ⟨g186, h⟩ := gd_some h
              refine VO.seg T_ok .dp 5 [5, 6, 7] [0, 1] (s' := ⟨[(5, .lf (.hd 0 0 none)), (6, .lf (.hd 1 0 none)), (7, I x129)], [ar 0 Y35 (x127.set x129.toNat ((x127.getD x129.toNat (Ty.dflt Y35)).1, ((x127.getD x129.toNat (Ty.dflt Y35)).2.1, ((x127.getD x129.toNat (Ty.dflt Y35)).2.2.1, ((x127.getD x129.toNat (Ty.dflt Y35)).2.2.2.1, ((x127.getD x129.toNat (Ty.dflt Y35)).2.2.2.2.1, (true, (x127.getD x129.toNat (Ty.dflt Y35)).2.2.2.2.2.2))))))) .tp, ar 0 (.int .i64) (x128 ++ ([(x127.getD x129.toNat (Ty.dflt Y35)).2.2.2.2.1])) .dp]⟩) (φ := True ∧ True ∧ (InR x129 x127.length) ∧ True ∧ (x129.toNat < x127.length) ∧ True) (by kernel_rfl) ⟨trivial, trivial, g185, trivial, g186, trivial⟩ ?_
              refine VO.nil ?_
              show VW _ _ _ _ _ _ _
              refine VW.region ?_
              obtain ⟨g187, h⟩ := gd_some h
              obtain ⟨g188, h⟩ := gd_some h
              refine VO.seg T_ok .dp 8 [5, 6, 7] [0, 1] (s' := ⟨[(5, .lf (.hd 0 0 none)), (6, .lf (.hd 1 0 none)), (7, I x129)], [ar 0 Y35 ((x127.set x129.toNat ((x127.getD x129.toNat (Ty.dflt Y35)).1, ((x127.getD x129.toNat (Ty.dflt Y35)).2.1, ((x127.getD x129.toNat (Ty.dflt Y35)).2.2.1, ((x127.getD x129.toNat (Ty.dflt Y35)).2.2.2.1, ((x127.getD x129.toNat (Ty.dflt Y35)).2.2.2.2.1, (true, (x127.getD x129.toNat (Ty.dflt Y35)).2.2.2.2.2.2))))))).set x129.toNat (((x127.set x129.toNat ((x127.getD x129.toNat (Ty.dflt Y35)).1, ((x127.getD x129.toNat (Ty.dflt Y35)).2.1, ((x127.getD x129.toNat (Ty.dflt Y35)).2.2.1, ((x127.getD x129.toNat (Ty.dflt Y35)).2.2.2.1, ((x127.getD x129.toNat (Ty.dflt Y35)).2.2.2.2.1, (true, (x127.getD x129.toNat (Ty.dflt Y35)).2.2.2.2.2.2))))))).getD x129.toNat (Ty.dflt Y35)).1, (((x127.set x129.toNat ((x127.getD x129.toNat (Ty.dflt Y35)).1, ((x127.getD x129.toNat (Ty.dflt Y35)).2.1, ((x127.getD x129.toNat (Ty.dflt Y35)).2.2.1, ((x127.getD x129.toNat (Ty.dflt Y35)).2.2.2.1, ((x127.getD x129.toNat (Ty.dflt Y35)).2.2.2.2.1, (true, (x127.getD x129.toNat (Ty.dflt Y35)).2.2.2.2.2.2))))))).getD x129.toNat (Ty.dflt Y35)).2.1, (((x127.set x129.toNat ((x127.getD x129.toNat (Ty.dflt Y35)).1, ((x127.getD x129.toNat (Ty.dflt Y35)).2.1, ((x127.getD x129.toNat (Ty.dflt Y35)).2.2.1, ((x127.getD x129.toNat (Ty.dflt Y35)).2.2.2.1, ((x127.getD x129.toNat (Ty.dflt Y35)).2.2.2.2.1, (true, (x127.getD x129.toNat (Ty.dflt Y35)).2.2.2.2.2.2))))))).getD x129.toNat (Ty.dflt Y35)).2.2.1, (((x127.set x129.toNat ((x127.getD x129.toNat (Ty.dflt Y35)).1, ((x127.getD x129.toNat (Ty.dflt Y35)).2.1, ((x127.getD x129.toNat (Ty.dflt Y35)).2.2.1, ((x127.getD x129.toNat (Ty.dflt Y35)).2.2.2.1, ((x127.getD x129.toNat (Ty.dflt Y35)).2.2.2.2.1, (true, (x127.getD x129.toNat (Ty.dflt Y35)).2.2.2.2.2.2))))))).getD x129.toNat (Ty.dflt Y35)).2.2.2.1, ((IntKind.i64.wrap (((x128 ++ ([(x127.getD x129.toNat (Ty.dflt Y35)).2.2.2.2.1])).length : Int) - (1 : Int))), (((x127.set x129.toNat ((x127.getD x129.toNat (Ty.dflt Y35)).1, ((x127.getD x129.toNat (Ty.dflt Y35)).2.1, ((x127.getD x129.toNat (Ty.dflt Y35)).2.2.1, ((x127.getD x129.toNat (Ty.dflt Y35)).2.2.2.1, ((x127.getD x129.toNat (Ty.dflt Y35)).2.2.2.2.1, (true, (x127.getD x129.toNat (Ty.dflt Y35)).2.2.2.2.2.2))))))).getD x129.toNat (Ty.dflt Y35)).2.2.2.2.2.1, ((x127.set x129.toNat ((x127.getD x129.toNat (Ty.dflt Y35)).1, ((x127.getD x129.toNat (Ty.dflt Y35)).2.1, ((x127.getD x129.toNat (Ty.dflt Y35)).2.2.1, ((x127.getD x129.toNat (Ty.dflt Y35)).2.2.2.1, ((x127.getD x129.toNat (Ty.dflt Y35)).2.2.2.2.1, (true, (x127.getD x129.toNat (Ty.dflt Y35)).2.2.2.2.2.2))))))).getD x129.toNat (Ty.dflt Y35)).2.2.2.2.2.2))))))) .tp, ar 0 (.int .i64) (x128 ++ ([(x127.getD x129.toNat (Ty.dflt Y35)).2.2.2.2.1])) .dp]⟩) (φ := True ∧ True ∧ True ∧ True ∧ True ∧ (InR x129 (x127.set x129.toNat ((x127.getD x129.toNat (Ty.dflt Y35)).1, ((x127.getD x129.toNat (Ty.dflt Y35)).2.1, ((x127.getD x129.toNat (Ty.dflt Y35)).2.2.1, ((x127.getD x129.toNat (Ty.dflt Y35)).2.2.2.1, ((x127.getD x129.toNat (Ty.dflt Y35)).2.2.2.2.1, (true, (x127.getD x129.toNat (Ty.dflt Y35)).2.2.2.2.2.2))))))).length) ∧ True ∧ (x129.toNat < (x127.set x129.toNat ((x127.getD x129.toNat (Ty.dflt Y35)).1, ((x127.getD x129.toNat (Ty.dflt Y35)).2.1, ((x127.getD x129.toNat (Ty.dflt Y35)).2.2.1, ((x127.getD x129.toNat (Ty.dflt Y35)).2.2.2.1, ((x127.getD x129.toNat (Ty.dflt Y35)).2.2.2.2.1, (true, (x127.getD x129.toNat (Ty.dflt Y35)).2.2.2.2.2.2))))))).length) ∧ True) (by kernel_rfl) ⟨trivial, trivial, trivial, trivial, trivial, g187, trivial, g188, trivial⟩ ?_
              refine VO.nil ?_
              exact arrive [.ren [5, 6, 7] [0, 1]] (by kernel_rfl) ⟨((x127.set x129.toNat ((x127.getD x129.toNat (Ty.dflt Y35)).1, ((x127.getD x129.toNat (Ty.dflt Y35)).2.1, ((x127.getD x129.toNat (Ty.dflt Y35)).2.2.1, ((x127.getD x129.toNat (Ty.dflt Y35)).2.2.2.1, ((x127.getD x129.toNat (Ty.dflt Y35)).2.2.2.2.1, (true, (x127.getD x129.toNat (Ty.dflt Y35)).2.2.2.2.2.2))))))).set x129.toNat (((x127.set x129.toNat ((x127.getD x129.toNat (Ty.dflt Y35)).1, ((x127.getD x129.toNat (Ty.dflt Y35)).2.1, ((x127.getD x129.toNat (Ty.dflt Y35)).2.2.1, ((x127.getD x129.toNat (Ty.dflt Y35)).2.2.2.1, ((x127.getD x129.toNat (Ty.dflt Y35)).2.2.2.2.1, (true, (x127.getD x129.toNat (Ty.dflt Y35)).2.2.2.2.2.2))))))).getD x129.toNat (Ty.dflt Y35)).1, (((x127.set x129.toNat ((x127.getD x129.toNat (Ty.dflt Y35)).1, ((x127.getD x129.toNat (Ty.dflt Y35)).2.1, ((x127.getD x129.toNat (Ty.dflt Y35)).2.2.1, ((x127.getD x129.toNat (Ty.dflt Y35)).2.2.2.1, ((x127.getD x129.toNat (Ty.dflt Y35)).2.2.2.2.1, (true, (x127.getD x129.toNat (Ty.dflt Y35)).2.2.2.2.2.2))))))).getD x129.toNat (Ty.dflt Y35)).2.1, (((x127.set x129.toNat ((x127.getD x129.toNat (Ty.dflt Y35)).1, ((x127.getD x129.toNat (Ty.dflt Y35)).2.1, ((x127.getD x129.toNat (Ty.dflt Y35)).2.2.1, ((x127.getD x129.toNat (Ty.dflt Y35)).2.2.2.1, ((x127.getD x129.toNat (Ty.dflt Y35)).2.2.2.2.1, (true, (x127.getD x129.toNat (Ty.dflt Y35)).2.2.2.2.2.2))))))).getD x129.toNat (Ty.dflt Y35)).2.2.1, (((x127.set x129.toNat ((x127.getD x129.toNat (Ty.dflt Y35)).1, ((x127.getD x129.toNat (Ty.dflt Y35)).2.1, ((x127.getD x129.toNat (Ty.dflt Y35)).2.2.1, ((x127.getD x129.toNat (Ty.dflt Y35)).2.2.2.1, ((x127.getD x129.toNat (Ty.dflt Y35)).2.2.2.2.1, (true, (x127.getD x129.toNat (Ty.dflt Y35)).2.2.2.2.2.2))))))).getD x129.toNat (Ty.dflt Y35)).2.2.2.1, ((IntKind.i64.wrap (((x128 ++ ([(x127.getD x129.toNat (Ty.dflt Y35)).2.2.2.2.1])).length : Int) - (1 : Int))), (((x127.set x129.toNat ((x127.getD x129.toNat (Ty.dflt Y35)).1, ((x127.getD x129.toNat (Ty.dflt Y35)).2.1, ((x127.getD x129.toNat (Ty.dflt Y35)).2.2.1, ((x127.getD x129.toNat (Ty.dflt Y35)).2.2.2.1, ((x127.getD x129.toNat (Ty.dflt Y35)).2.2.2.2.1, (true, (x127.getD x129.toNat (Ty.dflt Y35)).2.2.2.2.2.2))))))).getD x129.toNat (Ty.dflt Y35)).2.2.2.2.2.1, ((x127.set x129.toNat ((x127.getD x129.toNat (Ty.dflt Y35)).1, ((x127.getD x129.toNat (Ty.dflt Y35)).2.1, ((x127.getD x129.toNat (Ty.dflt Y35)).2.2.1, ((x127.getD x129.toNat (Ty.dflt Y35)).2.2.2.1, ((x127.getD x129.toNat (Ty.dflt Y35)).2.2.2.2.1, (true, (x127.getD x129.toNat (Ty.dflt Y35)).2.2.2.2.2.2))))))).getD x129.toNat (Ty.dflt Y35)).2.2.2.2.2.2))))))), (x128 ++ ([(x127.getD x129.toNat (Ty.dflt Y35)).2.2.2.2.1])), rfl, h⟩
          · rintro s ⟨x173, x174, rfl, h⟩
            unfold F29_j1 at h
            refine VW.region ?_
            refine VO.seg T_ok .dp 3 [5, 6, 7] [0, 1] (s' := ⟨[(5, .lf (.hd 0 0 none)), (6, .lf (.hd 1 0 none)), (7, I (IntKind.i64.wrap (x129 + (1 : Int))))], [ar 0 Y35 x173 .tp, ar 0 (.int .i64) x174 .dp]⟩) (φ := True ∧ True ∧ True ∧ True) (by kernel_rfl) ⟨trivial, trivial, trivial, trivial⟩ ?_
            refine VO.nil ?_
            exact around [.ren [5, 6, 7] [0, 1]] (by kernel_rfl) ⟨x173, x174, (IntKind.i64.wrap (x129 + (1 : Int))), rfl, h⟩
        · replace h := cond_f h hb; clear hb
          refine VW.exit ?_
          exact arrive [.ren [5, 6] [0, 1]] (by kernel_rfl) ⟨x127, x128, rfl, h⟩
    · rintro s ⟨x95, x96, rfl, h⟩
      unfold F29_j0 at h
      refine VW.seq ?_
      refine VW.region ?_
      refine VO.seg T_ok .dp 5 [2, 3, 4] [0, 1] (s' := ⟨[(2, .lf (.hd 0 0 none)), (3, .lf (.hd 1 0 none)), (4, B true)], [ar 0 Y35 x95 .tp, ar 0 (.int .i64) x96 .dp]⟩) (φ := True ∧ True ∧ True ∧ True ∧ True ∧ True) (by kernel_rfl) ⟨trivial, trivial, trivial, trivial, trivial, trivial⟩ ?_
      refine VO.nil ?_
      show VW _ _ _ _ _ _ _
      refine VW.ret ?_
      replace h := Option.some.inj h
      subst h
      exact retR [some 0, some 1] (by kernel_rfl) rfl

end Go.Proofs.Ytmckanbamdgcfaa.Vc
