/- What functions of the program compute, and that they do. -/
import Derived.Test.YtckcbjaldmlomaaVt0
namespace Go.Proofs.Ytckcbjaldmlomaa.Vc
open Go Go.RowKit
set_option linter.unusedVariables false
set_option maxRecDepth 100000
set_option maxHeartbeats 4000000
/- loop.example/g00844/impl.WordOk -/
def F53_j0 (N : Nat) (a0 : ByteArray) : Option (Bool) :=
  andO (F40 N (a0.size : Int) (1 : Int) (12 : Int)) fun y14 => some y14
def F53_j1 (N : Nat) (nx25 : Int → Int → Option (Bool)) (x20 : Int) (x21 : Int) : Option (Bool) :=
  nx25 x20 (IntKind.i64.wrap (x21 + (1 : Int)))
def F53_l0_b (N : Nat) (a0 : ByteArray) (nx25 : Int → Int → Option (Bool)) (x20 : Int) (x21 : Int) : Option (Bool) :=
  cond (decide (x21 < x20)) (gd (InR x21 a0.size) (cond (decide (((a0.data.getD x21.toNat 0).toNat : Int) ≥ (97 : Int))) (cond (!(decide (((a0.data.getD x21.toNat 0).toNat : Int) ≤ (122 : Int)))) (cond (x21 == (0 : Int)) (some false) (cond (decide (((a0.data.getD x21.toNat 0).toNat : Int) < (48 : Int))) (some false) (cond (decide (((a0.data.getD x21.toNat 0).toNat : Int) > (57 : Int))) (some false) (F53_j1 N nx25 x20 x21)))) (F53_j1 N nx25 x20 x21)) (cond (x21 == (0 : Int)) (some false) (cond (decide (((a0.data.getD x21.toNat 0).toNat : Int) < (48 : Int))) (some false) (cond (decide (((a0.data.getD x21.toNat 0).toNat : Int) > (57 : Int))) (some false) (F53_j1 N nx25 x20 x21)))))) (F53_j0 N a0)
def F53_l0 (N : Nat) (a0 : ByteArray) : Nat → Int → Int → Option (Bool) := loopF (F53_l0_b N a0) (fun _ _ => none)
theorem F53_l0_s (N : Nat) (a0 : ByteArray) {k : Nat} (hk : 0 < k) (x20 : Int) (x21 : Int) : F53_l0 N a0 k x20 x21 = F53_l0_b N a0 (F53_l0 N a0 (k - 1)) x20 x21 := by
  cases k with
  | zero => exact absurd hk (Nat.lt_irrefl 0)
  | succ m => rfl
def F53 (N : Nat) (a0 : ByteArray) : Option (Bool) :=
  F53_l0 N a0 N (a0.size : Int) (0 : Int)
theorem ok53 (N : Nat) (a0 : ByteArray) {r : Bool} (h : F53 N a0 = some r) : Con Go.Proofs.Try.prog 53 [S a0] [.lf (.v .bool r)] := by
  refine ⟨enters_of Go.Proofs.Try.func53 rfl (by decide), HC.intro [.lf (.v .bool)] T_ok Go.Proofs.Try.func53 rfl (Nat.le_of_ble_eq_true rfl) (Nat.le_of_ble_eq_true rfl) fun w0 E0 => ?_⟩
  unfold F53 at h
  show VW _ _ _ _ _ (retQ _ _ _ _) _
  refine VW.seq ?_
  refine VW.region ?_
  refine VO.seg T_ok .dp 1 [0] [] (s' := ⟨[(0, S a0)], []⟩) (φ := True ∧ True) (by kernel_rfl) ⟨trivial, trivial⟩ ?_
  refine VO.nil ?_
  show VW _ _ _ _ _ _ _
  refine VW.join (fun s => s = ⟨[(0, S a0)], []⟩ ∧ F53_j0 N a0 = some r) ?_ ?_
  · refine VW.seq ?_
    refine VW.region ?_
    refine VO.seg T_ok .dp 3 [0, 7, 8] [] (s' := ⟨[(0, S a0), (7, I (a0.size : Int)), (8, I (0 : Int))], []⟩) (φ := True ∧ True ∧ True ∧ True) (by kernel_rfl) ⟨trivial, trivial, trivial, trivial⟩ ?_
    refine VO.nil ?_
    show VW _ _ _ _ _ _ _
    refine VW.block ?_
    refine VW.loopL (fun k s => ∃ (x20 : Int) (x21 : Int), s = ⟨[(0, S a0), (7, I x20), (8, I x21)], []⟩ ∧ F53_l0 N a0 k x20 x21 = some r) N [.ren [0, 7, 8] []] (by kernel_rfl) ⟨(a0.size : Int), (0 : Int), rfl, h⟩ ?_
    rintro k25 s ⟨x20, x21, rfl, h⟩
    cases k25 with
    | zero => exact nomatch (show (none : Option (Bool)) = some r from h)
    | succ k25 =>
      replace h : F53_l0_b N a0 (F53_l0 N a0 k25) x20 x21 = some r := h
      unfold F53_l0_b at h
      refine VW.seq ?_
      refine VW.region ?_
      refine VO.seg T_ok .dp 1 [0, 7, 8, 9] [] (s' := ⟨[(0, S a0), (7, I x20), (8, I x21), (9, B (decide (x21 < x20)))], []⟩) (φ := True ∧ True) (by kernel_rfl) ⟨trivial, trivial⟩ ?_
      refine VO.nil ?_
      show VW _ _ _ _ _ _ _
      refine VW.seq ?_
      refine VW.cond (b := (decide (x21 < x20))) (by kernel_rfl) (fun hb => ?_) (fun hb => ?_)
      · replace h := cond_t h hb; clear hb
        refine VW.skip ?_
        show VW _ _ _ _ _ _ _
        refine VW.join (fun s => s = ⟨[(0, S a0), (7, I x20), (8, I x21)], []⟩ ∧ F53_j1 N (F53_l0 N a0 k25) x20 x21 = some r) ?_ ?_
        · refine VW.block ?_
          refine VW.seq ?_
          refine VW.region ?_
          refine VO.seg T_ok .dp 2 [0, 3, 7, 8] [] (s' := ⟨[(0, S a0), (3, I x21), (7, I x20), (8, I x21)], []⟩) (φ := True ∧ True ∧ True) (by kernel_rfl) ⟨trivial, trivial, trivial⟩ ?_
          refine VO.nil ?_
          show VW _ _ _ _ _ _ _
          refine VW.seq ?_
          refine VW.region ?_
          obtain ⟨g28, h⟩ := gd_some h
          refine VO.seg T_ok .dp 4 [0, 3, 4, 7, 8] [] (s' := ⟨[(0, S a0), (3, I x21), (4, U ((a0.data.getD x21.toNat 0).toNat : Int)), (7, I x20), (8, I x21)], []⟩) (φ := True ∧ True ∧ (InR x21 a0.size) ∧ True ∧ True) (by kernel_rfl) ⟨trivial, trivial, g28, trivial, trivial⟩ ?_
          refine VO.nil ?_
          show VW _ _ _ _ _ _ _
          refine VW.seq ?_
          refine VW.region ?_
          refine VO.seg T_ok .dp 3 [0, 3, 4, 7, 8, 16] [] (s' := ⟨[(0, S a0), (3, I x21), (4, U ((a0.data.getD x21.toNat 0).toNat : Int)), (7, I x20), (8, I x21), (16, B (decide (((a0.data.getD x21.toNat 0).toNat : Int) ≥ (97 : Int))))], []⟩) (φ := True ∧ True ∧ True ∧ True) (by kernel_rfl) ⟨trivial, trivial, trivial, trivial⟩ ?_
          refine VO.splitB 16 (b := (decide (((a0.data.getD x21.toNat 0).toNat : Int) ≥ (97 : Int)))) (by kernel_rfl) (fun hb => ?_) (fun hb => ?_)
          · replace h := cond_t h hb; clear hb
            refine VO.seg T_ok .dp 4 [0, 3, 4, 5, 7, 8] [] (s' := ⟨[(0, S a0), (3, I x21), (4, U ((a0.data.getD x21.toNat 0).toNat : Int)), (5, B (decide (((a0.data.getD x21.toNat 0).toNat : Int) ≤ (122 : Int)))), (7, I x20), (8, I x21)], []⟩) (φ := True ∧ True ∧ True ∧ True ∧ True) (by kernel_rfl) ⟨trivial, trivial, trivial, trivial, trivial⟩ ?_
            refine VO.nil ?_
            show VW _ _ _ _ _ _ _
            refine VW.seq ?_
            refine VW.region ?_
            refine VO.seg T_ok .dp 3 [0, 3, 4, 7, 8, 22] [] (s' := ⟨[(0, S a0), (3, I x21), (4, U ((a0.data.getD x21.toNat 0).toNat : Int)), (7, I x20), (8, I x21), (22, B (!(decide (((a0.data.getD x21.toNat 0).toNat : Int) ≤ (122 : Int)))))], []⟩) (φ := True ∧ True ∧ True ∧ True) (by kernel_rfl) ⟨trivial, trivial, trivial, trivial⟩ ?_
            refine VO.splitB 22 (b := (!(decide (((a0.data.getD x21.toNat 0).toNat : Int) ≤ (122 : Int))))) (by kernel_rfl) (fun hb => ?_) (fun hb => ?_)
            · replace h := cond_t h hb; clear hb
              refine VO.seg T_ok .dp 3 [0, 4, 7, 8, 22, 25] [] (s' := ⟨[(0, S a0), (4, U ((a0.data.getD x21.toNat 0).toNat : Int)), (7, I x20), (8, I x21), (22, B true), (25, B (x21 == (0 : Int)))], []⟩) (φ := True ∧ True ∧ True ∧ True) (by kernel_rfl) ⟨trivial, trivial, trivial, trivial⟩ ?_
              refine VO.splitB 25 (b := (x21 == (0 : Int))) (by kernel_rfl) (fun hb => ?_) (fun hb => ?_)
              · replace h := cond_t h hb; clear hb
                refine VO.seg T_ok .dp 8 [0, 7, 8, 33] [] (s' := ⟨[(0, S a0), (7, I x20), (8, I x21), (33, B true)], []⟩) (φ := True ∧ True ∧ True ∧ True ∧ True ∧ True ∧ True ∧ True ∧ True) (by kernel_rfl) ⟨trivial, trivial, trivial, trivial, trivial, trivial, trivial, trivial, trivial⟩ ?_
                refine VO.nil ?_
                show VW _ _ _ _ _ _ _
                refine VW.cond (b := true) (by kernel_rfl) (fun _ => ?_) (fun h' => nomatch h')
                refine VW.seq ?_
                refine VW.region ?_
                refine VO.seg T_ok .dp 1 [2] [] (s' := ⟨[(2, B false)], []⟩) (φ := True ∧ True) (by kernel_rfl) ⟨trivial, trivial⟩ ?_
                refine VO.nil ?_
                show VW _ _ _ _ _ _ _
                refine VW.ret ?_
                replace h := Option.some.inj h
                subst h
                exact retR [] (by kernel_rfl) rfl
              · replace h := cond_f h hb; clear hb
                refine VO.seg T_ok .dp 4 [0, 4, 7, 8, 22, 29] [] (s' := ⟨[(0, S a0), (4, U ((a0.data.getD x21.toNat 0).toNat : Int)), (7, I x20), (8, I x21), (22, B true), (29, B (decide (((a0.data.getD x21.toNat 0).toNat : Int) < (48 : Int))))], []⟩) (φ := True ∧ True ∧ True ∧ True ∧ True) (by kernel_rfl) ⟨trivial, trivial, trivial, trivial, trivial⟩ ?_
                refine VO.splitB 29 (b := (decide (((a0.data.getD x21.toNat 0).toNat : Int) < (48 : Int)))) (by kernel_rfl) (fun hb => ?_) (fun hb => ?_)
                · replace h := cond_t h hb; clear hb
                  refine VO.seg T_ok .dp 4 [0, 7, 8, 33] [] (s' := ⟨[(0, S a0), (7, I x20), (8, I x21), (33, B true)], []⟩) (φ := True ∧ True ∧ True ∧ True ∧ True) (by kernel_rfl) ⟨trivial, trivial, trivial, trivial, trivial⟩ ?_
                  refine VO.nil ?_
                  show VW _ _ _ _ _ _ _
                  refine VW.cond (b := true) (by kernel_rfl) (fun _ => ?_) (fun h' => nomatch h')
                  refine VW.seq ?_
                  refine VW.region ?_
                  refine VO.seg T_ok .dp 1 [2] [] (s' := ⟨[(2, B false)], []⟩) (φ := True ∧ True) (by kernel_rfl) ⟨trivial, trivial⟩ ?_
                  refine VO.nil ?_
                  show VW _ _ _ _ _ _ _
                  refine VW.ret ?_
                  replace h := Option.some.inj h
                  subst h
                  exact retR [] (by kernel_rfl) rfl
                · replace h := cond_f h hb; clear hb
                  refine VO.seg T_ok .dp 4 [0, 7, 8, 33] [] (s' := ⟨[(0, S a0), (7, I x20), (8, I x21), (33, B (decide (((a0.data.getD x21.toNat 0).toNat : Int) > (57 : Int))))], []⟩) (φ := True ∧ True ∧ True ∧ True ∧ True) (by kernel_rfl) ⟨trivial, trivial, trivial, trivial, trivial⟩ ?_
                  refine VO.nil ?_
                  show VW _ _ _ _ _ _ _
                  refine VW.cond (b := (decide (((a0.data.getD x21.toNat 0).toNat : Int) > (57 : Int)))) (by kernel_rfl) (fun hb => ?_) (fun hb => ?_)
                  · replace h := cond_t h hb; clear hb
                    refine VW.seq ?_
                    refine VW.region ?_
                    refine VO.seg T_ok .dp 1 [2] [] (s' := ⟨[(2, B false)], []⟩) (φ := True ∧ True) (by kernel_rfl) ⟨trivial, trivial⟩ ?_
                    refine VO.nil ?_
                    show VW _ _ _ _ _ _ _
                    refine VW.ret ?_
                    replace h := Option.some.inj h
                    subst h
                    exact retR [] (by kernel_rfl) rfl
                  · replace h := cond_f h hb; clear hb
                    refine VW.skip ?_
                    exact arrive [.ren [0, 7, 8] []] (by kernel_rfl) ⟨rfl, h⟩
            · replace h := cond_f h hb; clear hb
              refine VO.seg T_ok .dp 11 [0, 7, 8, 33] [] (s' := ⟨[(0, S a0), (7, I x20), (8, I x21), (33, B false)], []⟩) (φ := True ∧ True ∧ True ∧ True ∧ True ∧ True ∧ True ∧ True ∧ True ∧ True ∧ True ∧ True) (by kernel_rfl) ⟨trivial, trivial, trivial, trivial, trivial, trivial, trivial, trivial, trivial, trivial, trivial, trivial⟩ ?_
              refine VO.nil ?_
              show VW _ _ _ _ _ _ _
              refine VW.cond (b := false) (by kernel_rfl) (fun h' => nomatch h') (fun _ => ?_)
              refine VW.skip ?_
              exact arrive [.ren [0, 7, 8] []] (by kernel_rfl) ⟨rfl, h⟩
          · replace h := cond_f h hb; clear hb
            refine VO.seg T_ok .dp 4 [0, 3, 4, 5, 7, 8] [] (s' := ⟨[(0, S a0), (3, I x21), (4, U ((a0.data.getD x21.toNat 0).toNat : Int)), (5, B false), (7, I x20), (8, I x21)], []⟩) (φ := True ∧ True ∧ True ∧ True ∧ True) (by kernel_rfl) ⟨trivial, trivial, trivial, trivial, trivial⟩ ?_
            refine VO.nil ?_
            show VW _ _ _ _ _ _ _
            refine VW.seq ?_
            refine VW.region ?_
            refine VO.seg T_ok .dp 6 [0, 4, 7, 8, 22, 25] [] (s' := ⟨[(0, S a0), (4, U ((a0.data.getD x21.toNat 0).toNat : Int)), (7, I x20), (8, I x21), (22, B true), (25, B (x21 == (0 : Int)))], []⟩) (φ := True ∧ True ∧ True ∧ True ∧ True ∧ True ∧ True) (by kernel_rfl) ⟨trivial, trivial, trivial, trivial, trivial, trivial, trivial⟩ ?_
            refine VO.splitB 25 (b := (x21 == (0 : Int))) (by kernel_rfl) (fun hb => ?_) (fun hb => ?_)
            · replace h := cond_t h hb; clear hb
              refine VO.seg T_ok .dp 8 [0, 7, 8, 33] [] (s' := ⟨[(0, S a0), (7, I x20), (8, I x21), (33, B true)], []⟩) (φ := True ∧ True ∧ True ∧ True ∧ True ∧ True ∧ True ∧ True ∧ True) (by kernel_rfl) ⟨trivial, trivial, trivial, trivial, trivial, trivial, trivial, trivial, trivial⟩ ?_
              refine VO.nil ?_
              show VW _ _ _ _ _ _ _
              refine VW.cond (b := true) (by kernel_rfl) (fun _ => ?_) (fun h' => nomatch h')
              refine VW.seq ?_
              refine VW.region ?_
              refine VO.seg T_ok .dp 1 [2] [] (s' := ⟨[(2, B false)], []⟩) (φ := True ∧ True) (by kernel_rfl) ⟨trivial, trivial⟩ ?_
              refine VO.nil ?_
              show VW _ _ _ _ _ _ _
              refine VW.ret ?_
              replace h := Option.some.inj h
              subst h
              exact retR [] (by kernel_rfl) rfl
            · replace h := cond_f h hb; clear hb
              refine VO.seg T_ok .dp 4 [0, 4, 7, 8, 22, 29] [] (s' := ⟨[(0, S a0), (4, U ((a0.data.getD x21.toNat 0).toNat : Int)), (7, I x20), (8, I x21), (22, B true), (29, B (decide (((a0.data.getD x21.toNat 0).toNat : Int) < (48 : Int))))], []⟩) (φ := True ∧ True ∧ True ∧ True ∧ True) (by kernel_rfl) ⟨trivial, trivial, trivial, trivial, trivial⟩ ?_
              refine VO.splitB 29 (b := (decide (((a0.data.getD x21.toNat 0).toNat : Int) < (48 : Int)))) (by kernel_rfl) (fun hb => ?_) (fun hb => ?_)
              · replace h := cond_t h hb; clear hb
                refine VO.seg T_ok .dp 4 [0, 7, 8, 33] [] (s' := ⟨[(0, S a0), (7, I x20), (8, I x21), (33, B true)], []⟩) (φ := True ∧ True ∧ True ∧ True ∧ True) (by kernel_rfl) ⟨trivial, trivial, trivial, trivial, trivial⟩ ?_
                refine VO.nil ?_
                show VW _ _ _ _ _ _ _
                refine VW.cond (b := true) (by kernel_rfl) (fun _ => ?_) (fun h' => nomatch h')
                refine VW.seq ?_
                refine VW.region ?_
                refine VO.seg T_ok .dp 1 [2] [] (s' := ⟨[(2, B false)], []⟩) (φ := True ∧ True) (by kernel_rfl) ⟨trivial, trivial⟩ ?_
                refine VO.nil ?_
                show VW _ _ _ _ _ _ _
                refine VW.ret ?_
                replace h := Option.some.inj h
                subst h
                exact retR [] (by kernel_rfl) rfl
              · replace h := cond_f h hb; clear hb
                refine VO.seg T_ok .dp 4 [0, 7, 8, 33] [] (s' := ⟨[(0, S a0), (7, I x20), (8, I x21), (33, B (decide (((a0.data.getD x21.toNat 0).toNat : Int) > (57 : Int))))], []⟩) (φ := True ∧ True ∧ True ∧ True ∧ True) (by kernel_rfl) ⟨trivial, trivial, trivial, trivial, trivial⟩ ?_
                refine VO.nil ?_
                show VW _ _ _ _ _ _ _
                refine VW.cond (b := (decide (((a0.data.getD x21.toNat 0).toNat : Int) > (57 : Int)))) (by kernel_rfl) (fun hb => ?_) (fun hb => ?_)
                · replace h := cond_t h hb; clear hb
                  refine VW.seq ?_
                  refine VW.region ?_
                  refine VO.seg T_ok .dp 1 [2] [] (s' := ⟨[(2, B false)], []⟩) (φ := True ∧ True) (by kernel_rfl) ⟨trivial, trivial⟩ ?_
                  refine VO.nil ?_
                  show VW _ _ _ _ _ _ _
                  refine VW.ret ?_
                  replace h := Option.some.inj h
                  subst h
                  exact retR [] (by kernel_rfl) rfl
                · replace h := cond_f h hb; clear hb
                  refine VW.skip ?_
                  exact arrive [.ren [0, 7, 8] []] (by kernel_rfl) ⟨rfl, h⟩
        · rintro s ⟨rfl, h⟩
          unfold F53_j1 at h
          refine VW.region ?_
          refine VO.seg T_ok .dp 2 [0, 7, 8] [] (s' := ⟨[(0, S a0), (7, I x20), (8, I (IntKind.i64.wrap (x21 + (1 : Int))))], []⟩) (φ := True ∧ True ∧ True) (by kernel_rfl) ⟨trivial, trivial, trivial⟩ ?_
          refine VO.nil ?_
          exact around [.ren [0, 7, 8] []] (by kernel_rfl) ⟨x20, (IntKind.i64.wrap (x21 + (1 : Int))), rfl, h⟩
      · replace h := cond_f h hb; clear hb
        refine VW.exit ?_
        exact arrive [.ren [0] []] (by kernel_rfl) ⟨rfl, h⟩
  · rintro s ⟨rfl, h⟩
    unfold F53_j0 at h
    refine VW.seq ?_
    refine VW.region ?_
    refine VO.seg T_ok .dp 2 [36] [] (s' := ⟨[(36, I (a0.size : Int))], []⟩) (φ := True ∧ True ∧ True) (by kernel_rfl) ⟨trivial, trivial, trivial⟩ ?_
    obtain ⟨y14, hy, h⟩ := andO_some h
    refine VO.call false [.t (.int .i64), .t (.int .i64), .t (.int .i64)] [] T_ok (d := some 37) (by kernel_rfl) (ok40 N _ _ _ hy) rfl ?_
    refine VO.seg T_ok .dp 1 [2] [] (s' := ⟨[(2, B y14)], []⟩) (φ := True ∧ True) (by kernel_rfl) ⟨trivial, trivial⟩ ?_
    refine VO.nil ?_
    show VW _ _ _ _ _ _ _
    refine VW.ret ?_
    replace h := Option.some.inj h
    subst h
    exact retR [] (by kernel_rfl) rfl

/- loop.example/g00844/impl.isCol -/
def F54 (N : Nat) (a0 : Int) : Option (Bool) :=
  andO (F40 N a0 (0 : Int) (63 : Int)) fun y1 => some y1
theorem ok54 (N : Nat) (a0 : Int) {r : Bool} (h : F54 N a0 = some r) : Con Go.Proofs.Try.prog 54 [I a0] [.lf (.v .bool r)] := by
  refine ⟨enters_of Go.Proofs.Try.func54 rfl (by decide), HC.intro [.lf (.v .bool)] T_ok Go.Proofs.Try.func54 rfl (Nat.le_of_ble_eq_true rfl) (Nat.le_of_ble_eq_true rfl) fun w0 E0 => ?_⟩
  unfold F54 at h
  show VW _ _ _ _ _ (retQ _ _ _ _) _
  refine VW.seq ?_
  refine VW.region ?_
  refine VO.seg T_ok .dp 1 [0] [] (s' := ⟨[(0, I a0)], []⟩) (φ := True ∧ True) (by kernel_rfl) ⟨trivial, trivial⟩ ?_
  refine VO.nil ?_
  show VW _ _ _ _ _ _ _
  refine VW.seq ?_
  refine VW.region ?_
  refine VO.seg T_ok .dp 1 [3] [] (s' := ⟨[(3, I a0)], []⟩) (φ := True ∧ True) (by kernel_rfl) ⟨trivial, trivial⟩ ?_
  obtain ⟨y1, hy, h⟩ := andO_some h
  refine VO.call false [.t (.int .i64), .t (.int .i64), .t (.int .i64)] [] T_ok (d := some 4) (by kernel_rfl) (ok40 N _ _ _ hy) rfl ?_
  refine VO.seg T_ok .dp 1 [2] [] (s' := ⟨[(2, B y1)], []⟩) (φ := True ∧ True) (by kernel_rfl) ⟨trivial, trivial⟩ ?_
  refine VO.nil ?_
  show VW _ _ _ _ _ _ _
  refine VW.ret ?_
  replace h := Option.some.inj h
  subst h
  exact retR [] (by kernel_rfl) rfl

/- loop.example/g00844/impl.isSlot -/
def F55 (N : Nat) (a0 : Int) : Option (Bool) :=
  andO (F40 N a0 (0 : Int) (39 : Int)) fun y1 => some y1
theorem ok55 (N : Nat) (a0 : Int) {r : Bool} (h : F55 N a0 = some r) : Con Go.Proofs.Try.prog 55 [I a0] [.lf (.v .bool r)] := by
  refine ⟨enters_of Go.Proofs.Try.func55 rfl (by decide), HC.intro [.lf (.v .bool)] T_ok Go.Proofs.Try.func55 rfl (Nat.le_of_ble_eq_true rfl) (Nat.le_of_ble_eq_true rfl) fun w0 E0 => ?_⟩
  unfold F55 at h
  show VW _ _ _ _ _ (retQ _ _ _ _) _
  refine VW.seq ?_
  refine VW.region ?_
  refine VO.seg T_ok .dp 1 [0] [] (s' := ⟨[(0, I a0)], []⟩) (φ := True ∧ True) (by kernel_rfl) ⟨trivial, trivial⟩ ?_
  refine VO.nil ?_
  show VW _ _ _ _ _ _ _
  refine VW.seq ?_
  refine VW.region ?_
  refine VO.seg T_ok .dp 1 [3] [] (s' := ⟨[(3, I a0)], []⟩) (φ := True ∧ True) (by kernel_rfl) ⟨trivial, trivial⟩ ?_
  obtain ⟨y1, hy, h⟩ := andO_some h
  refine VO.call false [.t (.int .i64), .t (.int .i64), .t (.int .i64)] [] T_ok (d := some 4) (by kernel_rfl) (ok40 N _ _ _ hy) rfl ?_
  refine VO.seg T_ok .dp 1 [2] [] (s' := ⟨[(2, B y1)], []⟩) (φ := True ∧ True) (by kernel_rfl) ⟨trivial, trivial⟩ ?_
  refine VO.nil ?_
  show VW _ _ _ _ _ _ _
  refine VW.ret ?_
  replace h := Option.some.inj h
  subst h
  exact retR [] (by kernel_rfl) rfl

/- loop.example/g00844/impl.isNum -/
def F56 (N : Nat) (a0 : Int) : Option (Bool) :=
  andO (F40 N a0 (-1000000 : Int) (1000000 : Int)) fun y1 => some y1
theorem ok56 (N : Nat) (a0 : Int) {r : Bool} (h : F56 N a0 = some r) : Con Go.Proofs.Try.prog 56 [I a0] [.lf (.v .bool r)] := by
  refine ⟨enters_of Go.Proofs.Try.func56 rfl (by decide), HC.intro [.lf (.v .bool)] T_ok Go.Proofs.Try.func56 rfl (Nat.le_of_ble_eq_true rfl) (Nat.le_of_ble_eq_true rfl) fun w0 E0 => ?_⟩
  unfold F56 at h
  show VW _ _ _ _ _ (retQ _ _ _ _) _
  refine VW.seq ?_
  refine VW.region ?_
  refine VO.seg T_ok .dp 1 [0] [] (s' := ⟨[(0, I a0)], []⟩) (φ := True ∧ True) (by kernel_rfl) ⟨trivial, trivial⟩ ?_
  refine VO.nil ?_
  show VW _ _ _ _ _ _ _
  refine VW.seq ?_
  refine VW.region ?_
  refine VO.seg T_ok .dp 1 [3] [] (s' := ⟨[(3, I a0)], []⟩) (φ := True ∧ True) (by kernel_rfl) ⟨trivial, trivial⟩ ?_
  obtain ⟨y1, hy, h⟩ := andO_some h
  refine VO.call false [.t (.int .i64), .t (.int .i64), .t (.int .i64)] [] T_ok (d := some 4) (by kernel_rfl) (ok40 N _ _ _ hy) rfl ?_
  refine VO.seg T_ok .dp 1 [2] [] (s' := ⟨[(2, B y1)], []⟩) (φ := True ∧ True) (by kernel_rfl) ⟨trivial, trivial⟩ ?_
  refine VO.nil ?_
  show VW _ _ _ _ _ _ _
  refine VW.ret ?_
  replace h := Option.some.inj h
  subst h
  exact retR [] (by kernel_rfl) rfl

/- slices.IndexFunc[[]int,int] -/
def F62_j0 (N : Nat) : Option (Int) :=
  some (-1 : Int)
def F62_l0_b (N : Nat) (a0 : (List Int)) (p1 : Int → Option (Bool)) (nx29 : Int → Int → Option (Int)) (x23 : Int) (x24 : Int) : Option (Int) :=
  cond (decide (x24 < x23)) (gd (InR x24 a0.length) (andO (p1 (a0.getD x24.toNat (Ty.dflt (.int .i64)))) fun y33 => cond y33 (some x24) (nx29 x23 (IntKind.i64.wrap (x24 + (1 : Int)))))) (F62_j0 N)
def F62_l0 (N : Nat) (a0 : (List Int)) (p1 : Int → Option (Bool)) : Nat → Int → Int → Option (Int) := loopF (F62_l0_b N a0 p1) (fun _ _ => none)
theorem F62_l0_s (N : Nat) (a0 : (List Int)) (p1 : Int → Option (Bool)) {k : Nat} (hk : 0 < k) (x23 : Int) (x24 : Int) : F62_l0 N a0 p1 k x23 x24 = F62_l0_b N a0 p1 (F62_l0 N a0 p1 (k - 1)) x23 x24 := by
  cases k with
  | zero => exact absurd hk (Nat.lt_irrefl 0)
  | succ m => rfl
def F62 (N : Nat) (a0 : (List Int)) (p1 : Int → Option (Bool)) : Option (Int) :=
  F62_l0 N a0 p1 N (a0.length : Int) (0 : Int)
theorem ok62 (N : Nat) (a0 : (List Int)) (g1 : FuncId) (p1 : Int → Option (Bool)) (hp1 : ∀ (z0 : Int) (r : Bool), p1 z0 = some r → Con Go.Proofs.Try.prog g1 [I z0] [.lf (.v .bool r)]) {r : Int} (h : F62 N a0 p1 = some r) : Con Go.Proofs.Try.prog 62 [.lf (.v (.sl (.int .i64)) a0), .clo g1 []] [.lf (.v (.int .i64) r)] := by
  refine ⟨enters_of Go.Proofs.Try.func62 rfl (by decide), HC.intro [.lf (.v (.int .i64))] T_ok Go.Proofs.Try.func62 rfl (Nat.le_of_ble_eq_true rfl) (Nat.le_of_ble_eq_true rfl) fun w0 E0 => ?_⟩
  unfold F62 at h
  show VW _ _ _ _ _ (retQ _ _ _ _) _
  refine VW.seq ?_
  refine VW.region ?_
  refine VO.seg T_ok .dp 1 [0, 1] [] (s' := ⟨[(0, .lf (.v (.sl (.int .i64)) a0)), (1, .clo g1 [])], []⟩) (φ := True ∧ True) (by kernel_rfl) ⟨trivial, trivial⟩ ?_
  refine VO.nil ?_
  show VW _ _ _ _ _ _ _
  refine VW.join (fun s => s = ⟨[], []⟩ ∧ F62_j0 N = some r) ?_ ?_
  · refine VW.seq ?_
    refine VW.region ?_
    refine VO.seg T_ok .dp 3 [0, 1, 7, 8] [] (s' := ⟨[(0, .lf (.v (.sl (.int .i64)) a0)), (1, .clo g1 []), (7, I (a0.length : Int)), (8, I (0 : Int))], []⟩) (φ := True ∧ True ∧ True ∧ True) (by kernel_rfl) ⟨trivial, trivial, trivial, trivial⟩ ?_
    refine VO.nil ?_
    show VW _ _ _ _ _ _ _
    refine VW.block ?_
    refine VW.loopL (fun k s => ∃ (x23 : Int) (x24 : Int), s = ⟨[(0, .lf (.v (.sl (.int .i64)) a0)), (1, .clo g1 []), (7, I x23), (8, I x24)], []⟩ ∧ F62_l0 N a0 p1 k x23 x24 = some r) N [.ren [0, 1, 7, 8] []] (by kernel_rfl) ⟨(a0.length : Int), (0 : Int), rfl, h⟩ ?_
    rintro k29 s ⟨x23, x24, rfl, h⟩
    cases k29 with
    | zero => exact nomatch (show (none : Option (Int)) = some r from h)
    | succ k29 =>
      replace h : F62_l0_b N a0 p1 (F62_l0 N a0 p1 k29) x23 x24 = some r := h
      unfold F62_l0_b at h
      refine VW.seq ?_
      refine VW.region ?_
      refine VO.seg T_ok .dp 1 [0, 1, 7, 8, 9] [] (s' := ⟨[(0, .lf (.v (.sl (.int .i64)) a0)), (1, .clo g1 []), (7, I x23), (8, I x24), (9, B (decide (x24 < x23)))], []⟩) (φ := True ∧ True) (by kernel_rfl) ⟨trivial, trivial⟩ ?_
      refine VO.nil ?_
      show VW _ _ _ _ _ _ _
      refine VW.seq ?_
      refine VW.cond (b := (decide (x24 < x23))) (by kernel_rfl) (fun hb => ?_) (fun hb => ?_)
      · replace h := cond_t h hb; clear hb
        refine VW.skip ?_
        show VW _ _ _ _ _ _ _
        refine VW.seq ?_
        refine VW.block ?_
        refine VW.seq ?_
        refine VW.region ?_
        refine VO.seg T_ok .dp 2 [0, 1, 5, 7, 8] [] (s' := ⟨[(0, .lf (.v (.sl (.int .i64)) a0)), (1, .clo g1 []), (5, I x24), (7, I x23), (8, I x24)], []⟩) (φ := True ∧ True ∧ True) (by kernel_rfl) ⟨trivial, trivial, trivial⟩ ?_
        refine VO.nil ?_
        show VW _ _ _ _ _ _ _
        refine VW.seq ?_
        refine VW.region ?_
        obtain ⟨g32, h⟩ := gd_some h
        refine VO.seg T_ok .dp 5 [0, 1, 5, 7, 8, 11, 15] [] (s' := ⟨[(0, .lf (.v (.sl (.int .i64)) a0)), (1, .clo g1 []), (5, I x24), (7, I x23), (8, I x24), (11, .clo g1 []), (15, I (a0.getD x24.toNat (Ty.dflt (.int .i64))))], []⟩) (φ := True ∧ True ∧ True ∧ (InR x24 a0.length) ∧ True ∧ True) (by kernel_rfl) ⟨trivial, trivial, trivial, g32, trivial, trivial⟩ ?_
        obtain ⟨y33, hy, h⟩ := andO_some h
        refine VO.call false [.t (.int .i64)] [] T_ok (d := some 16) (by kernel_rfl) (hp1 _ _ hy) rfl ?_
        refine VO.seg T_ok .dp 0 [0, 1, 5, 7, 8, 16] [] (s' := ⟨[(0, .lf (.v (.sl (.int .i64)) a0)), (1, .clo g1 []), (5, I x24), (7, I x23), (8, I x24), (16, B y33)], []⟩) (φ := True) (by kernel_rfl) trivial ?_
        refine VO.nil ?_
        show VW _ _ _ _ _ _ _
        refine VW.cond (b := y33) (by kernel_rfl) (fun hb => ?_) (fun hb => ?_)
        · replace h := cond_t h hb; clear hb
          refine VW.seq ?_
          refine VW.region ?_
          refine VO.seg T_ok .dp 2 [4] [] (s' := ⟨[(4, I x24)], []⟩) (φ := True ∧ True ∧ True) (by kernel_rfl) ⟨trivial, trivial, trivial⟩ ?_
          refine VO.nil ?_
          show VW _ _ _ _ _ _ _
          refine VW.ret ?_
          replace h := Option.some.inj h
          subst h
          exact retR [] (by kernel_rfl) rfl
        · replace h := cond_f h hb; clear hb
          refine VW.skip ?_
          show VW _ _ _ _ _ _ _
          refine VW.region ?_
          refine VO.seg T_ok .dp 2 [0, 1, 7, 8] [] (s' := ⟨[(0, .lf (.v (.sl (.int .i64)) a0)), (1, .clo g1 []), (7, I x23), (8, I (IntKind.i64.wrap (x24 + (1 : Int))))], []⟩) (φ := True ∧ True ∧ True) (by kernel_rfl) ⟨trivial, trivial, trivial⟩ ?_
          refine VO.nil ?_
          exact around [.ren [0, 1, 7, 8] []] (by kernel_rfl) ⟨x23, (IntKind.i64.wrap (x24 + (1 : Int))), rfl, h⟩
      · replace h := cond_f h hb; clear hb
        refine VW.exit ?_
        exact arrive [.ren [] []] (by kernel_rfl) ⟨rfl, h⟩
  · rintro s ⟨rfl, h⟩
    unfold F62_j0 at h
    refine VW.seq ?_
    refine VW.region ?_
    refine VO.seg T_ok .dp 1 [4] [] (s' := ⟨[(4, I (-1 : Int))], []⟩) (φ := True ∧ True) (by kernel_rfl) ⟨trivial, trivial⟩ ?_
    refine VO.nil ?_
    show VW _ _ _ _ _ _ _
    refine VW.ret ?_
    replace h := Option.some.inj h
    subst h
    exact retR [] (by kernel_rfl) rfl

/- slices.ContainsFunc[[]int,int] -/
def F57 (N : Nat) (a0 : (List Int)) (p1 : Int → Option (Bool)) : Option (Bool) :=
  andO (F62 N a0 p1) fun y1 => some (decide (y1 ≥ (0 : Int)))
theorem ok57 (N : Nat) (a0 : (List Int)) (g1 : FuncId) (p1 : Int → Option (Bool)) (hp1 : ∀ (z0 : Int) (r : Bool), p1 z0 = some r → Con Go.Proofs.Try.prog g1 [I z0] [.lf (.v .bool r)]) {r : Bool} (h : F57 N a0 p1 = some r) : Con Go.Proofs.Try.prog 57 [.lf (.v (.sl (.int .i64)) a0), .clo g1 []] [.lf (.v .bool r)] := by
  refine ⟨enters_of Go.Proofs.Try.func57 rfl (by decide), HC.intro [.lf (.v .bool)] T_ok Go.Proofs.Try.func57 rfl (Nat.le_of_ble_eq_true rfl) (Nat.le_of_ble_eq_true rfl) fun w0 E0 => ?_⟩
  unfold F57 at h
  show VW _ _ _ _ _ (retQ _ _ _ _) _
  refine VW.seq ?_
  refine VW.region ?_
  refine VO.seg T_ok .dp 1 [0, 1] [] (s' := ⟨[(0, .lf (.v (.sl (.int .i64)) a0)), (1, .clo g1 [])], []⟩) (φ := True ∧ True) (by kernel_rfl) ⟨trivial, trivial⟩ ?_
  refine VO.nil ?_
  show VW _ _ _ _ _ _ _
  refine VW.seq ?_
  refine VW.region ?_
  refine VO.seg T_ok .dp 2 [5, 6] [] (s' := ⟨[(5, .lf (.v (.sl (.int .i64)) a0)), (6, .clo g1 [])], []⟩) (φ := True ∧ True ∧ True) (by kernel_rfl) ⟨trivial, trivial, trivial⟩ ?_
  obtain ⟨y1, hy, h⟩ := andO_some h
  refine VO.call false [.t (.sl (.int .i64)), .clo []] [] T_ok (d := some 7) (by kernel_rfl) (ok62 N _ g1  p1 hp1 hy) rfl ?_
  refine VO.seg T_ok .dp 2 [4] [] (s' := ⟨[(4, B (decide (y1 ≥ (0 : Int))))], []⟩) (φ := True ∧ True ∧ True) (by kernel_rfl) ⟨trivial, trivial, trivial⟩ ?_
  refine VO.nil ?_
  show VW _ _ _ _ _ _ _
  refine VW.ret ?_
  replace h := Option.some.inj h
  subst h
  exact retR [] (by kernel_rfl) rfl

/- loop.example/g00844/impl.NodeOk$1 -/
def F58 (N : Nat) (a0 : Int) : Option (Bool) :=
  andO (F54 N a0) fun y1 => some (!y1)
theorem ok58 (N : Nat) (a0 : Int) {r : Bool} (h : F58 N a0 = some r) : Con Go.Proofs.Try.prog 58 [I a0] [.lf (.v .bool r)] := by
  refine ⟨enters_of Go.Proofs.Try.func58 rfl (by decide), HC.intro [.lf (.v .bool)] T_ok Go.Proofs.Try.func58 rfl (Nat.le_of_ble_eq_true rfl) (Nat.le_of_ble_eq_true rfl) fun w0 E0 => ?_⟩
  unfold F58 at h
  show VW _ _ _ _ _ (retQ _ _ _ _) _
  refine VW.seq ?_
  refine VW.region ?_
  refine VO.seg T_ok .dp 1 [0] [] (s' := ⟨[(0, I a0)], []⟩) (φ := True ∧ True) (by kernel_rfl) ⟨trivial, trivial⟩ ?_
  refine VO.nil ?_
  show VW _ _ _ _ _ _ _
  refine VW.seq ?_
  refine VW.region ?_
  refine VO.seg T_ok .dp 1 [3] [] (s' := ⟨[(3, I a0)], []⟩) (φ := True ∧ True) (by kernel_rfl) ⟨trivial, trivial⟩ ?_
  obtain ⟨y1, hy, h⟩ := andO_some h
  refine VO.call false [.t (.int .i64)] [] T_ok (d := some 4) (by kernel_rfl) (ok54 N _ hy) rfl ?_
  refine VO.seg T_ok .dp 2 [2] [] (s' := ⟨[(2, B (!y1))], []⟩) (φ := True ∧ True ∧ True) (by kernel_rfl) ⟨trivial, trivial, trivial⟩ ?_
  refine VO.nil ?_
  show VW _ _ _ _ _ _ _
  refine VW.ret ?_
  replace h := Option.some.inj h
  subst h
  exact retR [] (by kernel_rfl) rfl

/- slices.Equal[[]int,int] -/
def F63_j0 (N : Nat) : Option (Bool) :=
  some true
def F63_l0_b (N : Nat) (a0 : (List Int)) (a1 : (List Int)) (nx29 : Int → Int → Option (Bool)) (x23 : Int) (x24 : Int) : Option (Bool) :=
  cond (decide (x24 < x23)) (gd (InR x24 a0.length) (gd (InR x24 a1.length) (cond ((a0.getD x24.toNat (Ty.dflt (.int .i64))) != (a1.getD x24.toNat (Ty.dflt (.int .i64)))) (some false) (nx29 x23 (IntKind.i64.wrap (x24 + (1 : Int))))))) (F63_j0 N)
def F63_l0 (N : Nat) (a0 : (List Int)) (a1 : (List Int)) : Nat → Int → Int → Option (Bool) := loopF (F63_l0_b N a0 a1) (fun _ _ => none)
theorem F63_l0_s (N : Nat) (a0 : (List Int)) (a1 : (List Int)) {k : Nat} (hk : 0 < k) (x23 : Int) (x24 : Int) : F63_l0 N a0 a1 k x23 x24 = F63_l0_b N a0 a1 (F63_l0 N a0 a1 (k - 1)) x23 x24 := by
  cases k with
  | zero => exact absurd hk (Nat.lt_irrefl 0)
  | succ m => rfl
def F63 (N : Nat) (a0 : (List Int)) (a1 : (List Int)) : Option (Bool) :=
  cond ((a0.length : Int) != (a1.length : Int)) (some false) (F63_l0 N a0 a1 N (a0.length : Int) (0 : Int))
theorem ok63 (N : Nat) (a0 : (List Int)) (a1 : (List Int)) {r : Bool} (h : F63 N a0 a1 = some r) : Con Go.Proofs.Try.prog 63 [.lf (.v (.sl (.int .i64)) a0), .lf (.v (.sl (.int .i64)) a1)] [.lf (.v .bool r)] := by
  refine ⟨enters_of Go.Proofs.Try.func63 rfl (by decide), HC.intro [.lf (.v .bool)] T_ok Go.Proofs.Try.func63 rfl (Nat.le_of_ble_eq_true rfl) (Nat.le_of_ble_eq_true rfl) fun w0 E0 => ?_⟩
  unfold F63 at h
  show VW _ _ _ _ _ (retQ _ _ _ _) _
  refine VW.seq ?_
  refine VW.region ?_
  refine VO.seg T_ok .dp 1 [0, 1] [] (s' := ⟨[(0, .lf (.v (.sl (.int .i64)) a0)), (1, .lf (.v (.sl (.int .i64)) a1))], []⟩) (φ := True ∧ True) (by kernel_rfl) ⟨trivial, trivial⟩ ?_
  refine VO.nil ?_
  show VW _ _ _ _ _ _ _
  refine VW.seq ?_
  refine VW.seq ?_
  refine VW.region ?_
  refine VO.seg T_ok .dp 5 [0, 1, 10] [] (s' := ⟨[(0, .lf (.v (.sl (.int .i64)) a0)), (1, .lf (.v (.sl (.int .i64)) a1)), (10, B ((a0.length : Int) != (a1.length : Int)))], []⟩) (φ := True ∧ True ∧ True ∧ True ∧ True ∧ True) (by kernel_rfl) ⟨trivial, trivial, trivial, trivial, trivial, trivial⟩ ?_
  refine VO.nil ?_
  show VW _ _ _ _ _ _ _
  refine VW.cond (b := ((a0.length : Int) != (a1.length : Int))) (by kernel_rfl) (fun hb => ?_) (fun hb => ?_)
  · replace h := cond_t h hb; clear hb
    refine VW.seq ?_
    refine VW.region ?_
    refine VO.seg T_ok .dp 1 [4] [] (s' := ⟨[(4, B false)], []⟩) (φ := True ∧ True) (by kernel_rfl) ⟨trivial, trivial⟩ ?_
    refine VO.nil ?_
    show VW _ _ _ _ _ _ _
    refine VW.ret ?_
    replace h := Option.some.inj h
    subst h
    exact retR [] (by kernel_rfl) rfl
  · replace h := cond_f h hb; clear hb
    refine VW.skip ?_
    show VW _ _ _ _ _ _ _
    refine VW.join (fun s => s = ⟨[], []⟩ ∧ F63_j0 N = some r) ?_ ?_
    · refine VW.seq ?_
      refine VW.region ?_
      refine VO.seg T_ok .dp 3 [0, 1, 12, 13] [] (s' := ⟨[(0, .lf (.v (.sl (.int .i64)) a0)), (1, .lf (.v (.sl (.int .i64)) a1)), (12, I (a0.length : Int)), (13, I (0 : Int))], []⟩) (φ := True ∧ True ∧ True ∧ True) (by kernel_rfl) ⟨trivial, trivial, trivial, trivial⟩ ?_
      refine VO.nil ?_
      show VW _ _ _ _ _ _ _
      refine VW.block ?_
      refine VW.loopL (fun k s => ∃ (x23 : Int) (x24 : Int), s = ⟨[(0, .lf (.v (.sl (.int .i64)) a0)), (1, .lf (.v (.sl (.int .i64)) a1)), (12, I x23), (13, I x24)], []⟩ ∧ F63_l0 N a0 a1 k x23 x24 = some r) N [.ren [0, 1, 12, 13] []] (by kernel_rfl) ⟨(a0.length : Int), (0 : Int), rfl, h⟩ ?_
      rintro k29 s ⟨x23, x24, rfl, h⟩
      cases k29 with
      | zero => exact nomatch (show (none : Option (Bool)) = some r from h)
      | succ k29 =>
        replace h : F63_l0_b N a0 a1 (F63_l0 N a0 a1 k29) x23 x24 = some r := h
        unfold F63_l0_b at h
        refine VW.seq ?_
        refine VW.region ?_
        refine VO.seg T_ok .dp 1 [0, 1, 12, 13, 14] [] (s' := ⟨[(0, .lf (.v (.sl (.int .i64)) a0)), (1, .lf (.v (.sl (.int .i64)) a1)), (12, I x23), (13, I x24), (14, B (decide (x24 < x23)))], []⟩) (φ := True ∧ True) (by kernel_rfl) ⟨trivial, trivial⟩ ?_
        refine VO.nil ?_
        show VW _ _ _ _ _ _ _
        refine VW.seq ?_
        refine VW.cond (b := (decide (x24 < x23))) (by kernel_rfl) (fun hb => ?_) (fun hb => ?_)
        · replace h := cond_t h hb; clear hb
          refine VW.skip ?_
          show VW _ _ _ _ _ _ _
          refine VW.seq ?_
          refine VW.block ?_
          refine VW.seq ?_
          refine VW.region ?_
          refine VO.seg T_ok .dp 2 [0, 1, 5, 12, 13] [] (s' := ⟨[(0, .lf (.v (.sl (.int .i64)) a0)), (1, .lf (.v (.sl (.int .i64)) a1)), (5, I x24), (12, I x23), (13, I x24)], []⟩) (φ := True ∧ True ∧ True) (by kernel_rfl) ⟨trivial, trivial, trivial⟩ ?_
          refine VO.nil ?_
          show VW _ _ _ _ _ _ _
          refine VW.seq ?_
          obtain ⟨g32, h⟩ := gd_some h
          obtain ⟨g33, h⟩ := gd_some h
          refine VW.drawn (by kernel_rfl) [some (16, .lf (.v (.sl (.int .i64)) a0)), some (17, I x24), some (18, .lf (.fp (.int .i64) (a0.getD x24.toNat (Ty.dflt (.int .i64))) 0)), some (19, I (a0.getD x24.toNat (Ty.dflt (.int .i64)))), some (20, .lf (.v (.sl (.int .i64)) a1)), some (21, I x24), some (22, .lf (.fp (.int .i64) (a1.getD x24.toNat (Ty.dflt (.int .i64))) 0)), some (23, I (a1.getD x24.toNat (Ty.dflt (.int .i64)))), some (24, B ((a0.getD x24.toNat (Ty.dflt (.int .i64))) != (a1.getD x24.toNat (Ty.dflt (.int .i64)))))] [] [[]] [(0, 0), (1, 0), (2, 0), (3, 0), (4, 0), (5, 0), (6, 0), (7, 0), (8, 0)] [0, 1, 12, 13, 24] [] (s' := ⟨[(0, .lf (.v (.sl (.int .i64)) a0)), (1, .lf (.v (.sl (.int .i64)) a1)), (12, I x23), (13, I x24), (24, B ((a0.getD x24.toNat (Ty.dflt (.int .i64))) != (a1.getD x24.toNat (Ty.dflt (.int .i64)))))], []⟩) (by kernel_rfl) (by kernel_rfl) ⟨⟨_, rfl, Stp.ev T_ok (m := .dp) (φ := True) (by kernel_rfl) trivial⟩,
    ⟨_, rfl, Stp.ev T_ok (m := .dp) (φ := True) (by kernel_rfl) trivial⟩,
    ⟨_, rfl, Stp.ev T_ok (m := .dp) (φ := InR x24 a0.length) (by kernel_rfl) g32⟩,
    ⟨_, rfl, Stp.ev T_ok (m := .dp) (φ := True) (by kernel_rfl) trivial⟩,
    ⟨_, rfl, Stp.ev T_ok (m := .dp) (φ := True) (by kernel_rfl) trivial⟩,
    ⟨_, rfl, Stp.ev T_ok (m := .dp) (φ := True) (by kernel_rfl) trivial⟩,
    ⟨_, rfl, Stp.ev T_ok (m := .dp) (φ := InR x24 a1.length) (by kernel_rfl) g33⟩,
    ⟨_, rfl, Stp.ev T_ok (m := .dp) (φ := True) (by kernel_rfl) trivial⟩,
    ⟨_, rfl, Stp.ev T_ok (m := .dp) (φ := True) (by kernel_rfl) trivial⟩, trivial⟩ (by kernel_rfl) ?_
          show VW _ _ _ _ _ _ _
          refine VW.cond (b := ((a0.getD x24.toNat (Ty.dflt (.int .i64))) != (a1.getD x24.toNat (Ty.dflt (.int .i64))))) (by kernel_rfl) (fun hb => ?_) (fun hb => ?_)
          · replace h := cond_t h hb; clear hb
            refine VW.seq ?_
            refine VW.region ?_
            refine VO.seg T_ok .dp 1 [4] [] (s' := ⟨[(4, B false)], []⟩) (φ := True ∧ True) (by kernel_rfl) ⟨trivial, trivial⟩ ?_
            refine VO.nil ?_
            show VW _ _ _ _ _ _ _
            refine VW.ret ?_
            replace h := Option.some.inj h
            subst h
            exact retR [] (by kernel_rfl) rfl
          · replace h := cond_f h hb; clear hb
            refine VW.skip ?_
            show VW _ _ _ _ _ _ _
            refine VW.region ?_
            refine VO.seg T_ok .dp 2 [0, 1, 12, 13] [] (s' := ⟨[(0, .lf (.v (.sl (.int .i64)) a0)), (1, .lf (.v (.sl (.int .i64)) a1)), (12, I x23), (13, I (IntKind.i64.wrap (x24 + (1 : Int))))], []⟩) (φ := True ∧ True ∧ True) (by kernel_rfl) ⟨trivial, trivial, trivial⟩ ?_
            refine VO.nil ?_
            exact around [.ren [0, 1, 12, 13] []] (by kernel_rfl) ⟨x23, (IntKind.i64.wrap (x24 + (1 : Int))), rfl, h⟩
        · replace h := cond_f h hb; clear hb
          refine VW.exit ?_
          exact arrive [.ren [] []] (by kernel_rfl) ⟨rfl, h⟩
    · rintro s ⟨rfl, h⟩
      unfold F63_j0 at h
      refine VW.seq ?_
      refine VW.region ?_
      refine VO.seg T_ok .dp 1 [4] [] (s' := ⟨[(4, B true)], []⟩) (φ := True ∧ True) (by kernel_rfl) ⟨trivial, trivial⟩ ?_
      refine VO.nil ?_
      show VW _ _ _ _ _ _ _
      refine VW.ret ?_
      replace h := Option.some.inj h
      subst h
      exact retR [] (by kernel_rfl) rfl

/- loop.example/g00844/impl.sameNode -/
def F59 (N : Nat) (a0 : (Int × (ByteArray × (Int × (Int × (Int × (Bool × (List Int)))))))) (a1 : (Int × (ByteArray × (Int × (Int × (Int × (Bool × (List Int)))))))) : Option (Bool) :=
  cond (a0.1 == a1.1) (cond (a0.2.1.toList == a1.2.1.toList) (cond (a0.2.2.1 == a1.2.2.1) (cond (a0.2.2.2.1 == a1.2.2.2.1) (cond (a0.2.2.2.2.1 == a1.2.2.2.2.1) (cond (a0.2.2.2.2.2.1 == a1.2.2.2.2.2.1) (andO (F63 N a0.2.2.2.2.2.2 a1.2.2.2.2.2.2) fun y1 => some y1) (some false)) (some false)) (some false)) (some false)) (some false)) (some false)
theorem ok59 (N : Nat) (a0 : (Int × (ByteArray × (Int × (Int × (Int × (Bool × (List Int)))))))) (a1 : (Int × (ByteArray × (Int × (Int × (Int × (Bool × (List Int)))))))) {r : Bool} (h : F59 N a0 a1 = some r) : Con Go.Proofs.Try.prog 59 [.agg [.v (.int .i64) a0.1, .v .str a0.2.1, .v (.int .i64) a0.2.2.1, .v (.int .i64) a0.2.2.2.1, .v (.int .i64) a0.2.2.2.2.1, .v .bool a0.2.2.2.2.2.1, .v (.sl (.int .i64)) a0.2.2.2.2.2.2], .agg [.v (.int .i64) a1.1, .v .str a1.2.1, .v (.int .i64) a1.2.2.1, .v (.int .i64) a1.2.2.2.1, .v (.int .i64) a1.2.2.2.2.1, .v .bool a1.2.2.2.2.2.1, .v (.sl (.int .i64)) a1.2.2.2.2.2.2]] [.lf (.v .bool r)] := by
  refine ⟨enters_of Go.Proofs.Try.func59 rfl (by decide), HC.intro [.lf (.v .bool)] T_ok Go.Proofs.Try.func59 rfl (Nat.le_of_ble_eq_true rfl) (Nat.le_of_ble_eq_true rfl) fun w0 E0 => ?_⟩
  unfold F59 at h
  show VW _ _ _ _ _ (retQ _ _ _ _) _
  refine VW.seq ?_
  refine VW.region ?_
  refine VO.seg T_ok .dp 3 [2, 3] [0, 1] (s' := ⟨[(2, .lf (.ptr 0 0 0 0)), (3, .lf (.ptr 1 0 0 0))], [bx [.v (.int .i64) a0.1, .v .str a0.2.1, .v (.int .i64) a0.2.2.1, .v (.int .i64) a0.2.2.2.1, .v (.int .i64) a0.2.2.2.2.1, .v .bool a0.2.2.2.2.2.1, .v (.sl (.int .i64)) a0.2.2.2.2.2.2] 44, bx [.v (.int .i64) a1.1, .v .str a1.2.1, .v (.int .i64) a1.2.2.1, .v (.int .i64) a1.2.2.2.1, .v (.int .i64) a1.2.2.2.2.1, .v .bool a1.2.2.2.2.2.1, .v (.sl (.int .i64)) a1.2.2.2.2.2.2] 44]⟩) (φ := True ∧ True ∧ True ∧ True) (by kernel_rfl) ⟨trivial, trivial, trivial, trivial⟩ ?_
  refine VO.nil ?_
  show VW _ _ _ _ _ _ _
  refine VW.seq ?_
  refine VW.region ?_
  refine VO.seg T_ok .dp 6 [2, 3, 10] [0, 1] (s' := ⟨[(2, .lf (.ptr 0 0 0 0)), (3, .lf (.ptr 1 0 0 0)), (10, B (a0.1 == a1.1))], [bx [.v (.int .i64) a0.1, .v .str a0.2.1, .v (.int .i64) a0.2.2.1, .v (.int .i64) a0.2.2.2.1, .v (.int .i64) a0.2.2.2.2.1, .v .bool a0.2.2.2.2.2.1, .v (.sl (.int .i64)) a0.2.2.2.2.2.2] 44, bx [.v (.int .i64) a1.1, .v .str a1.2.1, .v (.int .i64) a1.2.2.1, .v (.int .i64) a1.2.2.2.1, .v (.int .i64) a1.2.2.2.2.1, .v .bool a1.2.2.2.2.2.1, .v (.sl (.int .i64)) a1.2.2.2.2.2.2] 44]⟩) (φ := True ∧ True ∧ True ∧ True ∧ True ∧ True ∧ True) (by kernel_rfl) ⟨trivial, trivial, trivial, trivial, trivial, trivial, trivial⟩ ?_
  refine VO.splitB 10 (b := (a0.1 == a1.1)) (by kernel_rfl) (fun hb => ?_) (fun hb => ?_)
  · replace h := cond_t h hb; clear hb
    refine VO.seg T_ok .dp 7 [2, 3, 17] [0, 1] (s' := ⟨[(2, .lf (.ptr 0 0 0 0)), (3, .lf (.ptr 1 0 0 0)), (17, B (a0.2.1.toList == a1.2.1.toList))], [bx [.v (.int .i64) a0.1, .v .str a0.2.1, .v (.int .i64) a0.2.2.1, .v (.int .i64) a0.2.2.2.1, .v (.int .i64) a0.2.2.2.2.1, .v .bool a0.2.2.2.2.2.1, .v (.sl (.int .i64)) a0.2.2.2.2.2.2] 44, bx [.v (.int .i64) a1.1, .v .str a1.2.1, .v (.int .i64) a1.2.2.1, .v (.int .i64) a1.2.2.2.1, .v (.int .i64) a1.2.2.2.2.1, .v .bool a1.2.2.2.2.2.1, .v (.sl (.int .i64)) a1.2.2.2.2.2.2] 44]⟩) (φ := True ∧ True ∧ True ∧ True ∧ True ∧ True ∧ True ∧ True) (by kernel_rfl) ⟨trivial, trivial, trivial, trivial, trivial, trivial, trivial, trivial⟩ ?_
    refine VO.splitB 17 (b := (a0.2.1.toList == a1.2.1.toList)) (by kernel_rfl) (fun hb => ?_) (fun hb => ?_)
    · replace h := cond_t h hb; clear hb
      refine VO.seg T_ok .dp 7 [2, 3, 24] [0, 1] (s' := ⟨[(2, .lf (.ptr 0 0 0 0)), (3, .lf (.ptr 1 0 0 0)), (24, B (a0.2.2.1 == a1.2.2.1))], [bx [.v (.int .i64) a0.1, .v .str a0.2.1, .v (.int .i64) a0.2.2.1, .v (.int .i64) a0.2.2.2.1, .v (.int .i64) a0.2.2.2.2.1, .v .bool a0.2.2.2.2.2.1, .v (.sl (.int .i64)) a0.2.2.2.2.2.2] 44, bx [.v (.int .i64) a1.1, .v .str a1.2.1, .v (.int .i64) a1.2.2.1, .v (.int .i64) a1.2.2.2.1, .v (.int .i64) a1.2.2.2.2.1, .v .bool a1.2.2.2.2.2.1, .v (.sl (.int .i64)) a1.2.2.2.2.2.2] 44]⟩) (φ := True ∧ True ∧ True ∧ True ∧ True ∧ True ∧ True ∧ True) (by kernel_rfl) ⟨trivial, trivial, trivial, trivial, trivial, trivial, trivial, trivial⟩ ?_
      refine VO.splitB 24 (b := (a0.2.2.1 == a1.2.2.1)) (by kernel_rfl) (fun hb => ?_) (fun hb => ?_)
      · replace h := cond_t h hb; clear hb
        refine VO.seg T_ok .dp 7 [2, 3, 31] [0, 1] (s' := ⟨[(2, .lf (.ptr 0 0 0 0)), (3, .lf (.ptr 1 0 0 0)), (31, B (a0.2.2.2.1 == a1.2.2.2.1))], [bx [.v (.int .i64) a0.1, .v .str a0.2.1, .v (.int .i64) a0.2.2.1, .v (.int .i64) a0.2.2.2.1, .v (.int .i64) a0.2.2.2.2.1, .v .bool a0.2.2.2.2.2.1, .v (.sl (.int .i64)) a0.2.2.2.2.2.2] 44, bx [.v (.int .i64) a1.1, .v .str a1.2.1, .v (.int .i64) a1.2.2.1, .v (.int .i64) a1.2.2.2.1, .v (.int .i64) a1.2.2.2.2.1, .v .bool a1.2.2.2.2.2.1, .v (.sl (.int .i64)) a1.2.2.2.2.2.2] 44]⟩) (φ := True ∧ True ∧ True ∧ True ∧ True ∧ True ∧ True ∧ True) (by kernel_rfl) ⟨trivial, trivial, trivial, trivial, trivial, trivial, trivial, trivial⟩ ?_
        refine VO.splitB 31 (b := (a0.2.2.2.1 == a1.2.2.2.1)) (by kernel_rfl) (fun hb => ?_) (fun hb => ?_)
        · replace h := cond_t h hb; clear hb
          refine VO.seg T_ok .dp 7 [2, 3, 38] [0, 1] (s' := ⟨[(2, .lf (.ptr 0 0 0 0)), (3, .lf (.ptr 1 0 0 0)), (38, B (a0.2.2.2.2.1 == a1.2.2.2.2.1))], [bx [.v (.int .i64) a0.1, .v .str a0.2.1, .v (.int .i64) a0.2.2.1, .v (.int .i64) a0.2.2.2.1, .v (.int .i64) a0.2.2.2.2.1, .v .bool a0.2.2.2.2.2.1, .v (.sl (.int .i64)) a0.2.2.2.2.2.2] 44, bx [.v (.int .i64) a1.1, .v .str a1.2.1, .v (.int .i64) a1.2.2.1, .v (.int .i64) a1.2.2.2.1, .v (.int .i64) a1.2.2.2.2.1, .v .bool a1.2.2.2.2.2.1, .v (.sl (.int .i64)) a1.2.2.2.2.2.2] 44]⟩) (φ := True ∧ True ∧ True ∧ True ∧ True ∧ True ∧ True ∧ True) (by kernel_rfl) ⟨trivial, trivial, trivial, trivial, trivial, trivial, trivial, trivial⟩ ?_
          refine VO.splitB 38 (b := (a0.2.2.2.2.1 == a1.2.2.2.2.1)) (by kernel_rfl) (fun hb => ?_) (fun hb => ?_)
          · replace h := cond_t h hb; clear hb
            refine VO.seg T_ok .dp 7 [2, 3, 45] [0, 1] (s' := ⟨[(2, .lf (.ptr 0 0 0 0)), (3, .lf (.ptr 1 0 0 0)), (45, B (a0.2.2.2.2.2.1 == a1.2.2.2.2.2.1))], [bx [.v (.int .i64) a0.1, .v .str a0.2.1, .v (.int .i64) a0.2.2.1, .v (.int .i64) a0.2.2.2.1, .v (.int .i64) a0.2.2.2.2.1, .v .bool a0.2.2.2.2.2.1, .v (.sl (.int .i64)) a0.2.2.2.2.2.2] 44, bx [.v (.int .i64) a1.1, .v .str a1.2.1, .v (.int .i64) a1.2.2.1, .v (.int .i64) a1.2.2.2.1, .v (.int .i64) a1.2.2.2.2.1, .v .bool a1.2.2.2.2.2.1, .v (.sl (.int .i64)) a1.2.2.2.2.2.2] 44]⟩) (φ := True ∧ True ∧ True ∧ True ∧ True ∧ True ∧ True ∧ True) (by kernel_rfl) ⟨trivial, trivial, trivial, trivial, trivial, trivial, trivial, trivial⟩ ?_
            refine VO.splitB 45 (b := (a0.2.2.2.2.2.1 == a1.2.2.2.2.2.1)) (by kernel_rfl) (fun hb => ?_) (fun hb => ?_)
            · replace h := cond_t h hb; clear hb
              refine VO.seg T_ok .dp 4 [45, 47, 49] [] (s' := ⟨[(45, B true), (47, .lf (.v (.sl (.int .i64)) a0.2.2.2.2.2.2)), (49, .lf (.v (.sl (.int .i64)) a1.2.2.2.2.2.2))], []⟩) (φ := True ∧ True ∧ True ∧ True ∧ True) (by kernel_rfl) ⟨trivial, trivial, trivial, trivial, trivial⟩ ?_
              refine VO.on (j := 40) (want := true) (d := 45) (b := true) rfl rfl rfl (by kernel_rfl) rfl ?_
              obtain ⟨y1, hy, h⟩ := andO_some h
              refine VO.call false [.t (.sl (.int .i64)), .t (.sl (.int .i64))] [] T_ok (d := some 50) (by kernel_rfl) (ok63 N _ _ hy) rfl ?_
              refine VO.seg T_ok .dp 2 [4] [] (s' := ⟨[(4, B y1)], []⟩) (φ := True ∧ True ∧ True) (by kernel_rfl) ⟨trivial, trivial, trivial⟩ ?_
              refine VO.nil ?_
              show VW _ _ _ _ _ _ _
              refine VW.ret ?_
              replace h := Option.some.inj h
              subst h
              exact retR [] (by kernel_rfl) rfl
            · replace h := cond_f h hb; clear hb
              refine VO.seg T_ok .dp 7 [4] [] (s' := ⟨[(4, B false)], []⟩) (φ := True ∧ True ∧ True ∧ True ∧ True ∧ True ∧ True ∧ True) (by kernel_rfl) ⟨trivial, trivial, trivial, trivial, trivial, trivial, trivial, trivial⟩ ?_
              refine VO.nil ?_
              show VW _ _ _ _ _ _ _
              refine VW.ret ?_
              replace h := Option.some.inj h
              subst h
              exact retR [] (by kernel_rfl) rfl
          · replace h := cond_f h hb; clear hb
            refine VO.seg T_ok .dp 14 [4] [] (s' := ⟨[(4, B false)], []⟩) (φ := True ∧ True ∧ True ∧ True ∧ True ∧ True ∧ True ∧ True ∧ True ∧ True ∧ True ∧ True ∧ True ∧ True ∧ True) (by kernel_rfl) ⟨trivial, trivial, trivial, trivial, trivial, trivial, trivial, trivial, trivial, trivial, trivial, trivial, trivial, trivial, trivial⟩ ?_
            refine VO.nil ?_
            show VW _ _ _ _ _ _ _
            refine VW.ret ?_
            replace h := Option.some.inj h
            subst h
            exact retR [] (by kernel_rfl) rfl
        · replace h := cond_f h hb; clear hb
          refine VO.seg T_ok .dp 21 [4] [] (s' := ⟨[(4, B false)], []⟩) (φ := True ∧ True ∧ True ∧ True ∧ True ∧ True ∧ True ∧ True ∧ True ∧ True ∧ True ∧ True ∧ True ∧ True ∧ True ∧ True ∧ True ∧ True ∧ True ∧ True ∧ True ∧ True) (by kernel_rfl) ⟨trivial, trivial, trivial, trivial, trivial, trivial, trivial, trivial, trivial, trivial, trivial, trivial, trivial, trivial, trivial, trivial, trivial, trivial, trivial, trivial, trivial, trivial⟩ ?_
          refine VO.nil ?_
          show VW _ _ _ _ _ _ _
          refine VW.ret ?_
          replace h := Option.some.inj h
          subst h
          exact retR [] (by kernel_rfl) rfl
      · replace h := cond_f h hb; clear hb
        refine VO.seg T_ok .dp 28 [4] [] (s' := ⟨[(4, B false)], []⟩) (φ := True ∧ True ∧ True ∧ True ∧ True ∧ True ∧ True ∧ True ∧ True ∧ True ∧ True ∧ True ∧ True ∧ True ∧ True ∧ True ∧ True ∧ True ∧ True ∧ True ∧ True ∧ True ∧ True ∧ True ∧ True ∧ True ∧ True ∧ True ∧ True) (by kernel_rfl) ⟨trivial, trivial, trivial, trivial, trivial, trivial, trivial, trivial, trivial, trivial, trivial, trivial, trivial, trivial, trivial, trivial, trivial, trivial, trivial, trivial, trivial, trivial, trivial, trivial, trivial, trivial, trivial, trivial, trivial⟩ ?_
        refine VO.nil ?_
        show VW _ _ _ _ _ _ _
        refine VW.ret ?_
        replace h := Option.some.inj h
        subst h
        exact retR [] (by kernel_rfl) rfl
    · replace h := cond_f h hb; clear hb
      refine VO.seg T_ok .dp 35 [4] [] (s' := ⟨[(4, B false)], []⟩) (φ := True ∧ True ∧ True ∧ True ∧ True ∧ True ∧ True ∧ True ∧ True ∧ True ∧ True ∧ True ∧ True ∧ True ∧ True ∧ True ∧ True ∧ True ∧ True ∧ True ∧ True ∧ True ∧ True ∧ True ∧ True ∧ True ∧ True ∧ True ∧ True ∧ True ∧ True ∧ True ∧ True ∧ True ∧ True ∧ True) (by kernel_rfl) ⟨trivial, trivial, trivial, trivial, trivial, trivial, trivial, trivial, trivial, trivial, trivial, trivial, trivial, trivial, trivial, trivial, trivial, trivial, trivial, trivial, trivial, trivial, trivial, trivial, trivial, trivial, trivial, trivial, trivial, trivial, trivial, trivial, trivial, trivial, trivial, trivial⟩ ?_
      refine VO.nil ?_
      show VW _ _ _ _ _ _ _
      refine VW.ret ?_
      replace h := Option.some.inj h
      subst h
      exact retR [] (by kernel_rfl) rfl
  · replace h := cond_f h hb; clear hb
    refine VO.seg T_ok .dp 42 [4] [] (s' := ⟨[(4, B false)], []⟩) (φ := True ∧ True ∧ True ∧ True ∧ True ∧ True ∧ True ∧ True ∧ True ∧ True ∧ True ∧ True ∧ True ∧ True ∧ True ∧ True ∧ True ∧ True ∧ True ∧ True ∧ True ∧ True ∧ True ∧ True ∧ True ∧ True ∧ True ∧ True ∧ True ∧ True ∧ True ∧ True ∧ True ∧ True ∧ True ∧ True ∧ True ∧ True ∧ True ∧ True ∧ True ∧ True ∧ True) (by kernel_rfl) ⟨trivial, trivial, trivial, trivial, trivial, trivial, trivial, trivial, trivial, trivial, trivial, trivial, trivial, trivial, trivial, trivial, trivial, trivial, trivial, trivial, trivial, trivial, trivial, trivial, trivial, trivial, trivial, trivial, trivial, trivial, trivial, trivial, trivial, trivial, trivial, trivial, trivial, trivial, trivial, trivial, trivial, trivial, trivial⟩ ?_
    refine VO.nil ?_
    show VW _ _ _ _ _ _ _
    refine VW.ret ?_
    replace h := Option.some.inj h
    subst h
    exact retR [] (by kernel_rfl) rfl

/- loop.example/g00844/impl.NodeOk -/
def F43_j0 (N : Nat) (x38 : ByteArray) (x39 : Int) (x40 : Int) (x41 : Int) (x42 : Bool) (x43 : (List Int)) (x44 : Bool) : Option (Bool) :=
  cond x44 (andO (F59 N ((0 : Int), (x38, (x39, (x40, (x41, (x42, x43)))))) ((0 : Int), (ByteArray.empty, ((0 : Int), ((0 : Int), ((0 : Int), (false, []))))))) fun y45 => some y45) (some false)
def F43_j1 (N : Nat) (x52 : ByteArray) (x53 : Int) (x54 : Int) (x55 : Int) (x56 : Bool) (x57 : (List Int)) (x58 : Bool) : Option (Bool) :=
  F43_j0 N x52 (0 : Int) (0 : Int) (0 : Int) false x57 x58
def F43_j2 (N : Nat) (x62 : ByteArray) (x63 : Int) (x64 : Int) (x65 : Int) (x66 : Bool) (x67 : (List Int)) : Option (Bool) :=
  F43_j0 N x62 (0 : Int) (0 : Int) (0 : Int) false x67 false
def F43_j3 (N : Nat) (x76 : ByteArray) (x77 : Int) (x78 : Int) (x79 : Int) (x80 : Bool) (x81 : (List Int)) (x82 : Bool) : Option (Bool) :=
  cond x82 (F43_j0 N x76 x77 x78 x79 x80 x81 true) (F43_j0 N x76 x77 x78 x79 x80 x81 false)
def F43 (N : Nat) (a0 : (Int × (ByteArray × (Int × (Int × (Int × (Bool × (List Int)))))))) : Option (Bool) :=
  cond (a0.1 == (0 : Int)) (andO (F53 N a0.2.1) fun y47 => F43_j0 N ByteArray.empty a0.2.2.1 a0.2.2.2.1 a0.2.2.2.2.1 a0.2.2.2.2.2.1 a0.2.2.2.2.2.2 y47) (cond (a0.1 == (1 : Int)) (andO (F54 N a0.2.2.1) fun y48 => cond y48 (andO (F40 N a0.2.2.2.1 (0 : Int) (3 : Int)) fun y49 => cond (a0.2.2.2.1 == (3 : Int)) (cond y49 (cond (a0.2.2.2.2.1 == (0 : Int)) (F43_j1 N a0.2.1 a0.2.2.1 a0.2.2.2.1 a0.2.2.2.2.1 a0.2.2.2.2.2.1 a0.2.2.2.2.2.2 (!a0.2.2.2.2.2.1)) (F43_j1 N a0.2.1 a0.2.2.1 a0.2.2.2.1 a0.2.2.2.2.1 a0.2.2.2.2.2.1 a0.2.2.2.2.2.2 false)) (F43_j1 N a0.2.1 a0.2.2.1 a0.2.2.2.1 a0.2.2.2.2.1 a0.2.2.2.2.2.1 a0.2.2.2.2.2.2 false)) (cond a0.2.2.2.2.2.1 (cond y49 (andO (F55 N a0.2.2.2.2.1) fun y60 => F43_j1 N a0.2.1 a0.2.2.1 a0.2.2.2.1 a0.2.2.2.2.1 a0.2.2.2.2.2.1 a0.2.2.2.2.2.2 y60) (F43_j1 N a0.2.1 a0.2.2.1 a0.2.2.2.1 a0.2.2.2.2.1 a0.2.2.2.2.2.1 a0.2.2.2.2.2.2 false)) (cond y49 (andO (F56 N a0.2.2.2.2.1) fun y61 => F43_j1 N a0.2.1 a0.2.2.1 a0.2.2.2.1 a0.2.2.2.2.1 a0.2.2.2.2.2.1 a0.2.2.2.2.2.2 y61) (F43_j1 N a0.2.1 a0.2.2.1 a0.2.2.2.1 a0.2.2.2.2.1 a0.2.2.2.2.2.1 a0.2.2.2.2.2.2 false)))) (cond (a0.2.2.2.1 == (3 : Int)) (F43_j2 N a0.2.1 a0.2.2.1 a0.2.2.2.1 a0.2.2.2.2.1 a0.2.2.2.2.2.1 a0.2.2.2.2.2.2) (cond a0.2.2.2.2.2.1 (F43_j2 N a0.2.1 a0.2.2.1 a0.2.2.2.1 a0.2.2.2.2.1 a0.2.2.2.2.2.1 a0.2.2.2.2.2.2) (F43_j2 N a0.2.1 a0.2.2.1 a0.2.2.2.1 a0.2.2.2.2.1 a0.2.2.2.2.2.1 a0.2.2.2.2.2.2)))) (cond (a0.1 == (2 : Int)) (andO (F40 N (a0.2.2.2.2.2.2.length : Int) (1 : Int) (6 : Int)) fun y69 => cond y69 (andO (F57 N a0.2.2.2.2.2.2 (fun z0 => F58 N z0)) fun y70 => F43_j0 N a0.2.1 a0.2.2.1 a0.2.2.2.1 a0.2.2.2.2.1 a0.2.2.2.2.2.1 ([]) (!y70)) (F43_j0 N a0.2.1 a0.2.2.1 a0.2.2.2.1 a0.2.2.2.2.1 a0.2.2.2.2.2.1 ([]) false)) (cond (a0.1 == (3 : Int)) (andO (F54 N a0.2.2.1) fun y71 => cond y71 (andO (F54 N a0.2.2.2.2.1) fun y72 => F43_j0 N a0.2.1 (0 : Int) a0.2.2.2.1 (0 : Int) a0.2.2.2.2.2.1 a0.2.2.2.2.2.2 y72) (F43_j0 N a0.2.1 (0 : Int) a0.2.2.2.1 (0 : Int) a0.2.2.2.2.2.1 a0.2.2.2.2.2.2 false)) (cond (a0.1 == (5 : Int)) (andO (F54 N a0.2.2.1) fun y73 => F43_j0 N a0.2.1 (0 : Int) a0.2.2.2.1 a0.2.2.2.2.1 a0.2.2.2.2.2.1 a0.2.2.2.2.2.2 y73) (cond (a0.1 == (6 : Int)) (andO (F40 N a0.2.2.2.2.1 (0 : Int) (1000000 : Int)) fun y74 => cond y74 (cond (!a0.2.2.2.2.2.1) (F43_j0 N a0.2.1 a0.2.2.1 a0.2.2.2.1 (0 : Int) false a0.2.2.2.2.2.2 true) (andO (F55 N a0.2.2.2.2.1) fun y75 => F43_j0 N a0.2.1 a0.2.2.1 a0.2.2.2.1 (0 : Int) false a0.2.2.2.2.2.2 y75)) (F43_j0 N a0.2.1 a0.2.2.1 a0.2.2.2.1 (0 : Int) false a0.2.2.2.2.2.2 false)) (cond (a0.1 == (4 : Int)) (F43_j3 N a0.2.1 a0.2.2.1 a0.2.2.2.1 a0.2.2.2.2.1 a0.2.2.2.2.2.1 a0.2.2.2.2.2.2 (a0.1 == (4 : Int))) (F43_j3 N a0.2.1 a0.2.2.1 a0.2.2.2.1 a0.2.2.2.2.1 a0.2.2.2.2.2.1 a0.2.2.2.2.2.2 (a0.1 == (7 : Int)))))))))
theorem ok43 (N : Nat) (a0 : (Int × (ByteArray × (Int × (Int × (Int × (Bool × (List Int)))))))) {r : Bool} (h : F43 N a0 = some r) : Con Go.Proofs.Try.prog 43 [.agg [.v (.int .i64) a0.1, .v .str a0.2.1, .v (.int .i64) a0.2.2.1, .v (.int .i64) a0.2.2.2.1, .v (.int .i64) a0.2.2.2.2.1, .v .bool a0.2.2.2.2.2.1, .v (.sl (.int .i64)) a0.2.2.2.2.2.2]] [.lf (.v .bool r)] := by
  refine ⟨enters_of Go.Proofs.Try.func43 rfl (by decide), HC.intro [.lf (.v .bool)] T_ok Go.Proofs.Try.func43 rfl (Nat.le_of_ble_eq_true rfl) (Nat.le_of_ble_eq_true rfl) fun w0 E0 => ?_⟩
  unfold F43 at h
  show VW _ _ _ _ _ (retQ _ _ _ _) _
  refine VW.seq ?_
  refine VW.region ?_
  refine VO.seg T_ok .dp 2 [1] [0] (s' := ⟨[(1, .lf (.ptr 0 0 0 0))], [bx [.v (.int .i64) a0.1, .v .str a0.2.1, .v (.int .i64) a0.2.2.1, .v (.int .i64) a0.2.2.2.1, .v (.int .i64) a0.2.2.2.2.1, .v .bool a0.2.2.2.2.2.1, .v (.sl (.int .i64)) a0.2.2.2.2.2.2] 44]⟩) (φ := True ∧ True ∧ True) (by kernel_rfl) ⟨trivial, trivial, trivial⟩ ?_
  refine VO.nil ?_
  show VW _ _ _ _ _ _ _
  refine VW.seq ?_
  refine VW.region ?_
  refine VO.seg T_ok .dp 3 [1, 3] [0, 1] (s' := ⟨[(1, .lf (.ptr 0 0 0 0)), (3, .lf (.ptr 1 0 0 0))], [bx [.v (.int .i64) a0.1, .v .str a0.2.1, .v (.int .i64) a0.2.2.1, .v (.int .i64) a0.2.2.2.1, .v (.int .i64) a0.2.2.2.2.1, .v .bool a0.2.2.2.2.2.1, .v (.sl (.int .i64)) a0.2.2.2.2.2.2] 44, bx [.v (.int .i64) a0.1, .v .str a0.2.1, .v (.int .i64) a0.2.2.1, .v (.int .i64) a0.2.2.2.1, .v (.int .i64) a0.2.2.2.2.1, .v .bool a0.2.2.2.2.2.1, .v (.sl (.int .i64)) a0.2.2.2.2.2.2] 44]⟩) (φ := True ∧ True ∧ True ∧ True) (by kernel_rfl) ⟨trivial, trivial, trivial, trivial⟩ ?_
  refine VO.nil ?_
  show VW _ _ _ _ _ _ _
  refine VW.seq ?_
  refine VW.region ?_
  refine VO.seg T_ok .dp 2 [1, 3] [0, 1] (s' := ⟨[(1, .lf (.ptr 0 0 0 0)), (3, .lf (.ptr 1 0 0 0))], [bx [.v (.int .i64) a0.1, .v .str a0.2.1, .v (.int .i64) a0.2.2.1, .v (.int .i64) a0.2.2.2.1, .v (.int .i64) a0.2.2.2.2.1, .v .bool a0.2.2.2.2.2.1, .v (.sl (.int .i64)) a0.2.2.2.2.2.2] 44, bx [.v (.int .i64) (0 : Int), .v .str a0.2.1, .v (.int .i64) a0.2.2.1, .v (.int .i64) a0.2.2.2.1, .v (.int .i64) a0.2.2.2.2.1, .v .bool a0.2.2.2.2.2.1, .v (.sl (.int .i64)) a0.2.2.2.2.2.2] 44]⟩) (φ := True ∧ True ∧ True) (by kernel_rfl) ⟨trivial, trivial, trivial⟩ ?_
  refine VO.nil ?_
  show VW _ _ _ _ _ _ _
  refine VW.seq ?_
  refine VW.region ?_
  refine VO.seg T_ok .dp 1 [1, 3, 4] [0, 1] (s' := ⟨[(1, .lf (.ptr 0 0 0 0)), (3, .lf (.ptr 1 0 0 0)), (4, B false)], [bx [.v (.int .i64) a0.1, .v .str a0.2.1, .v (.int .i64) a0.2.2.1, .v (.int .i64) a0.2.2.2.1, .v (.int .i64) a0.2.2.2.2.1, .v .bool a0.2.2.2.2.2.1, .v (.sl (.int .i64)) a0.2.2.2.2.2.2] 44, bx [.v (.int .i64) (0 : Int), .v .str a0.2.1, .v (.int .i64) a0.2.2.1, .v (.int .i64) a0.2.2.2.1, .v (.int .i64) a0.2.2.2.2.1, .v .bool a0.2.2.2.2.2.1, .v (.sl (.int .i64)) a0.2.2.2.2.2.2] 44]⟩) (φ := True ∧ True) (by kernel_rfl) ⟨trivial, trivial⟩ ?_
  refine VO.nil ?_
  show VW _ _ _ _ _ _ _
  refine VW.join (fun s => ∃ (x38 : ByteArray) (x39 : Int) (x40 : Int) (x41 : Int) (x42 : Bool) (x43 : (List Int)) (x44 : Bool), s = ⟨[(3, .lf (.ptr 0 0 0 0)), (4, B x44)], [bx [.v (.int .i64) (0 : Int), .v .str x38, .v (.int .i64) x39, .v (.int .i64) x40, .v (.int .i64) x41, .v .bool x42, .v (.sl (.int .i64)) x43] 44]⟩ ∧ F43_j0 N x38 x39 x40 x41 x42 x43 x44 = some r) ?_ ?_
  · refine VW.seq ?_
    refine VW.region ?_
    refine VO.seg T_ok .dp 2 [1, 3, 4, 8] [0, 1] (s' := ⟨[(1, .lf (.ptr 0 0 0 0)), (3, .lf (.ptr 1 0 0 0)), (4, B false), (8, I a0.1)], [bx [.v (.int .i64) a0.1, .v .str a0.2.1, .v (.int .i64) a0.2.2.1, .v (.int .i64) a0.2.2.2.1, .v (.int .i64) a0.2.2.2.2.1, .v .bool a0.2.2.2.2.2.1, .v (.sl (.int .i64)) a0.2.2.2.2.2.2] 44, bx [.v (.int .i64) (0 : Int), .v .str a0.2.1, .v (.int .i64) a0.2.2.1, .v (.int .i64) a0.2.2.2.1, .v (.int .i64) a0.2.2.2.2.1, .v .bool a0.2.2.2.2.2.1, .v (.sl (.int .i64)) a0.2.2.2.2.2.2] 44]⟩) (φ := True ∧ True ∧ True) (by kernel_rfl) ⟨trivial, trivial, trivial⟩ ?_
    refine VO.nil ?_
    show VW _ _ _ _ _ _ _
    refine VW.block ?_
    refine VW.seq ?_
    refine VW.region ?_
    refine VO.seg T_ok .dp 2 [1, 3, 4, 8, 9] [0, 1] (s' := ⟨[(1, .lf (.ptr 0 0 0 0)), (3, .lf (.ptr 1 0 0 0)), (4, B false), (8, I a0.1), (9, B (a0.1 == (0 : Int)))], [bx [.v (.int .i64) a0.1, .v .str a0.2.1, .v (.int .i64) a0.2.2.1, .v (.int .i64) a0.2.2.2.1, .v (.int .i64) a0.2.2.2.2.1, .v .bool a0.2.2.2.2.2.1, .v (.sl (.int .i64)) a0.2.2.2.2.2.2] 44, bx [.v (.int .i64) (0 : Int), .v .str a0.2.1, .v (.int .i64) a0.2.2.1, .v (.int .i64) a0.2.2.2.1, .v (.int .i64) a0.2.2.2.2.1, .v .bool a0.2.2.2.2.2.1, .v (.sl (.int .i64)) a0.2.2.2.2.2.2] 44]⟩) (φ := True ∧ True ∧ True) (by kernel_rfl) ⟨trivial, trivial, trivial⟩ ?_
    refine VO.nil ?_
    show VW _ _ _ _ _ _ _
    refine VW.cond (b := (a0.1 == (0 : Int))) (by kernel_rfl) (fun hb => ?_) (fun hb => ?_)
    · replace h := cond_t h hb; clear hb
      refine VW.seq ?_
      refine VW.region ?_
      refine VO.seg T_ok .dp 2 [3, 12] [1] (s' := ⟨[(3, .lf (.ptr 0 0 0 0)), (12, S a0.2.1)], [bx [.v (.int .i64) (0 : Int), .v .str a0.2.1, .v (.int .i64) a0.2.2.1, .v (.int .i64) a0.2.2.2.1, .v (.int .i64) a0.2.2.2.2.1, .v .bool a0.2.2.2.2.2.1, .v (.sl (.int .i64)) a0.2.2.2.2.2.2] 44]⟩) (φ := True ∧ True ∧ True) (by kernel_rfl) ⟨trivial, trivial, trivial⟩ ?_
      obtain ⟨y47, hy, h⟩ := andO_some h
      refine VO.call false [.t .str] [] T_ok (d := some 13) (by kernel_rfl) (ok53 N _ hy) rfl ?_
      refine VO.seg T_ok .dp 1 [3, 4] [0] (s' := ⟨[(3, .lf (.ptr 0 0 0 0)), (4, B y47)], [bx [.v (.int .i64) (0 : Int), .v .str a0.2.1, .v (.int .i64) a0.2.2.1, .v (.int .i64) a0.2.2.2.1, .v (.int .i64) a0.2.2.2.2.1, .v .bool a0.2.2.2.2.2.1, .v (.sl (.int .i64)) a0.2.2.2.2.2.2] 44]⟩) (φ := True ∧ True) (by kernel_rfl) ⟨trivial, trivial⟩ ?_
      refine VO.nil ?_
      show VW _ _ _ _ _ _ _
      refine VW.region ?_
      refine VO.seg T_ok .dp 2 [3, 4] [0] (s' := ⟨[(3, .lf (.ptr 0 0 0 0)), (4, B y47)], [bx [.v (.int .i64) (0 : Int), .v .str ByteArray.empty, .v (.int .i64) a0.2.2.1, .v (.int .i64) a0.2.2.2.1, .v (.int .i64) a0.2.2.2.2.1, .v .bool a0.2.2.2.2.2.1, .v (.sl (.int .i64)) a0.2.2.2.2.2.2] 44]⟩) (φ := True ∧ True ∧ True) (by kernel_rfl) ⟨trivial, trivial, trivial⟩ ?_
      refine VO.nil ?_
      exact arrive [.ren [3, 4] [0]] (by kernel_rfl) ⟨ByteArray.empty, a0.2.2.1, a0.2.2.2.1, a0.2.2.2.2.1, a0.2.2.2.2.2.1, a0.2.2.2.2.2.2, y47, rfl, h⟩
    · replace h := cond_f h hb; clear hb
      refine VW.seq ?_
      refine VW.region ?_
      refine VO.seg T_ok .dp 2 [1, 3, 4, 8, 15] [0, 1] (s' := ⟨[(1, .lf (.ptr 0 0 0 0)), (3, .lf (.ptr 1 0 0 0)), (4, B false), (8, I a0.1), (15, B (a0.1 == (1 : Int)))], [bx [.v (.int .i64) a0.1, .v .str a0.2.1, .v (.int .i64) a0.2.2.1, .v (.int .i64) a0.2.2.2.1, .v (.int .i64) a0.2.2.2.2.1, .v .bool a0.2.2.2.2.2.1, .v (.sl (.int .i64)) a0.2.2.2.2.2.2] 44, bx [.v (.int .i64) (0 : Int), .v .str a0.2.1, .v (.int .i64) a0.2.2.1, .v (.int .i64) a0.2.2.2.1, .v (.int .i64) a0.2.2.2.2.1, .v .bool a0.2.2.2.2.2.1, .v (.sl (.int .i64)) a0.2.2.2.2.2.2] 44]⟩) (φ := True ∧ True ∧ True) (by kernel_rfl) ⟨trivial, trivial, trivial⟩ ?_
      refine VO.nil ?_
      show VW _ _ _ _ _ _ _
      refine VW.cond (b := (a0.1 == (1 : Int))) (by kernel_rfl) (fun hb => ?_) (fun hb => ?_)
      · replace h := cond_t h hb; clear hb
        refine VW.seq ?_
        refine VW.region ?_
        refine VO.seg T_ok .dp 2 [1, 3, 18] [0, 1] (s' := ⟨[(1, .lf (.ptr 0 0 0 0)), (3, .lf (.ptr 1 0 0 0)), (18, I a0.2.2.1)], [bx [.v (.int .i64) a0.1, .v .str a0.2.1, .v (.int .i64) a0.2.2.1, .v (.int .i64) a0.2.2.2.1, .v (.int .i64) a0.2.2.2.2.1, .v .bool a0.2.2.2.2.2.1, .v (.sl (.int .i64)) a0.2.2.2.2.2.2] 44, bx [.v (.int .i64) (0 : Int), .v .str a0.2.1, .v (.int .i64) a0.2.2.1, .v (.int .i64) a0.2.2.2.1, .v (.int .i64) a0.2.2.2.2.1, .v .bool a0.2.2.2.2.2.1, .v (.sl (.int .i64)) a0.2.2.2.2.2.2] 44]⟩) (φ := True ∧ True ∧ True) (by kernel_rfl) ⟨trivial, trivial, trivial⟩ ?_
        obtain ⟨y48, hy, h⟩ := andO_some h
        refine VO.call false [.t (.int .i64)] [] T_ok (d := some 19) (by kernel_rfl) (ok54 N _ hy) rfl ?_
        refine VO.seg T_ok .dp 1 [1, 3, 20] [0, 1] (s' := ⟨[(1, .lf (.ptr 0 0 0 0)), (3, .lf (.ptr 1 0 0 0)), (20, B y48)], [bx [.v (.int .i64) a0.1, .v .str a0.2.1, .v (.int .i64) a0.2.2.1, .v (.int .i64) a0.2.2.2.1, .v (.int .i64) a0.2.2.2.2.1, .v .bool a0.2.2.2.2.2.1, .v (.sl (.int .i64)) a0.2.2.2.2.2.2] 44, bx [.v (.int .i64) (0 : Int), .v .str a0.2.1, .v (.int .i64) a0.2.2.1, .v (.int .i64) a0.2.2.2.1, .v (.int .i64) a0.2.2.2.2.1, .v .bool a0.2.2.2.2.2.1, .v (.sl (.int .i64)) a0.2.2.2.2.2.2] 44]⟩) (φ := True ∧ True) (by kernel_rfl) ⟨trivial, trivial⟩ ?_
        refine VO.splitB 20 (b := y48) (by kernel_rfl) (fun hb => ?_) (fun hb => ?_)
        · replace h := cond_t h hb; clear hb
          refine VO.seg T_ok .dp 2 [1, 3, 20, 22] [0, 1] (s' := ⟨[(1, .lf (.ptr 0 0 0 0)), (3, .lf (.ptr 1 0 0 0)), (20, B true), (22, I a0.2.2.2.1)], [bx [.v (.int .i64) a0.1, .v .str a0.2.1, .v (.int .i64) a0.2.2.1, .v (.int .i64) a0.2.2.2.1, .v (.int .i64) a0.2.2.2.2.1, .v .bool a0.2.2.2.2.2.1, .v (.sl (.int .i64)) a0.2.2.2.2.2.2] 44, bx [.v (.int .i64) (0 : Int), .v .str a0.2.1, .v (.int .i64) a0.2.2.1, .v (.int .i64) a0.2.2.2.1, .v (.int .i64) a0.2.2.2.2.1, .v .bool a0.2.2.2.2.2.1, .v (.sl (.int .i64)) a0.2.2.2.2.2.2] 44]⟩) (φ := True ∧ True ∧ True) (by kernel_rfl) ⟨trivial, trivial, trivial⟩ ?_
          refine VO.on (j := 3) (want := true) (d := 20) (b := true) rfl rfl rfl (by kernel_rfl) rfl ?_
          obtain ⟨y49, hy, h⟩ := andO_some h
          refine VO.call false [.t (.int .i64), .t (.int .i64), .t (.int .i64)] [] T_ok (d := some 23) (by kernel_rfl) (ok40 N _ _ _ hy) rfl ?_
          refine VO.seg T_ok .dp 2 [1, 3, 4] [0, 1] (s' := ⟨[(1, .lf (.ptr 0 0 0 0)), (3, .lf (.ptr 1 0 0 0)), (4, B y49)], [bx [.v (.int .i64) a0.1, .v .str a0.2.1, .v (.int .i64) a0.2.2.1, .v (.int .i64) a0.2.2.2.1, .v (.int .i64) a0.2.2.2.2.1, .v .bool a0.2.2.2.2.2.1, .v (.sl (.int .i64)) a0.2.2.2.2.2.2] 44, bx [.v (.int .i64) (0 : Int), .v .str a0.2.1, .v (.int .i64) a0.2.2.1, .v (.int .i64) a0.2.2.2.1, .v (.int .i64) a0.2.2.2.2.1, .v .bool a0.2.2.2.2.2.1, .v (.sl (.int .i64)) a0.2.2.2.2.2.2] 44]⟩) (φ := True ∧ True ∧ True) (by kernel_rfl) ⟨trivial, trivial, trivial⟩ ?_
          refine VO.nil ?_
          show VW _ _ _ _ _ _ _
          refine VW.join (fun s => ∃ (x52 : ByteArray) (x53 : Int) (x54 : Int) (x55 : Int) (x56 : Bool) (x57 : (List Int)) (x58 : Bool), s = ⟨[(3, .lf (.ptr 0 0 0 0)), (4, B x58)], [bx [.v (.int .i64) (0 : Int), .v .str x52, .v (.int .i64) x53, .v (.int .i64) x54, .v (.int .i64) x55, .v .bool x56, .v (.sl (.int .i64)) x57] 44]⟩ ∧ F43_j1 N x52 x53 x54 x55 x56 x57 x58 = some r) ?_ ?_
          · refine VW.block ?_
            refine VW.seq ?_
            refine VW.region ?_
            refine VO.seg T_ok .dp 4 [1, 3, 4, 31] [0, 1] (s' := ⟨[(1, .lf (.ptr 0 0 0 0)), (3, .lf (.ptr 1 0 0 0)), (4, B y49), (31, B (a0.2.2.2.1 == (3 : Int)))], [bx [.v (.int .i64) a0.1, .v .str a0.2.1, .v (.int .i64) a0.2.2.1, .v (.int .i64) a0.2.2.2.1, .v (.int .i64) a0.2.2.2.2.1, .v .bool a0.2.2.2.2.2.1, .v (.sl (.int .i64)) a0.2.2.2.2.2.2] 44, bx [.v (.int .i64) (0 : Int), .v .str a0.2.1, .v (.int .i64) a0.2.2.1, .v (.int .i64) a0.2.2.2.1, .v (.int .i64) a0.2.2.2.2.1, .v .bool a0.2.2.2.2.2.1, .v (.sl (.int .i64)) a0.2.2.2.2.2.2] 44]⟩) (φ := True ∧ True ∧ True ∧ True ∧ True) (by kernel_rfl) ⟨trivial, trivial, trivial, trivial, trivial⟩ ?_
            refine VO.nil ?_
            show VW _ _ _ _ _ _ _
            refine VW.cond (b := (a0.2.2.2.1 == (3 : Int))) (by kernel_rfl) (fun hb => ?_) (fun hb => ?_)
            · replace h := cond_t h hb; clear hb
              refine VW.region ?_
              refine VO.seg T_ok .dp 2 [1, 3, 36] [0, 1] (s' := ⟨[(1, .lf (.ptr 0 0 0 0)), (3, .lf (.ptr 1 0 0 0)), (36, B y49)], [bx [.v (.int .i64) a0.1, .v .str a0.2.1, .v (.int .i64) a0.2.2.1, .v (.int .i64) a0.2.2.2.1, .v (.int .i64) a0.2.2.2.2.1, .v .bool a0.2.2.2.2.2.1, .v (.sl (.int .i64)) a0.2.2.2.2.2.2] 44, bx [.v (.int .i64) (0 : Int), .v .str a0.2.1, .v (.int .i64) a0.2.2.1, .v (.int .i64) a0.2.2.2.1, .v (.int .i64) a0.2.2.2.2.1, .v .bool a0.2.2.2.2.2.1, .v (.sl (.int .i64)) a0.2.2.2.2.2.2] 44]⟩) (φ := True ∧ True ∧ True) (by kernel_rfl) ⟨trivial, trivial, trivial⟩ ?_
              refine VO.splitB 36 (b := y49) (by kernel_rfl) (fun hb => ?_) (fun hb => ?_)
              · replace h := cond_t h hb; clear hb
                refine VO.seg T_ok .dp 5 [1, 3, 41] [0, 1] (s' := ⟨[(1, .lf (.ptr 0 0 0 0)), (3, .lf (.ptr 1 0 0 0)), (41, B (a0.2.2.2.2.1 == (0 : Int)))], [bx [.v (.int .i64) a0.1, .v .str a0.2.1, .v (.int .i64) a0.2.2.1, .v (.int .i64) a0.2.2.2.1, .v (.int .i64) a0.2.2.2.2.1, .v .bool a0.2.2.2.2.2.1, .v (.sl (.int .i64)) a0.2.2.2.2.2.2] 44, bx [.v (.int .i64) (0 : Int), .v .str a0.2.1, .v (.int .i64) a0.2.2.1, .v (.int .i64) a0.2.2.2.1, .v (.int .i64) a0.2.2.2.2.1, .v .bool a0.2.2.2.2.2.1, .v (.sl (.int .i64)) a0.2.2.2.2.2.2] 44]⟩) (φ := True ∧ True ∧ True ∧ True ∧ True ∧ True) (by kernel_rfl) ⟨trivial, trivial, trivial, trivial, trivial, trivial⟩ ?_
                refine VO.splitB 41 (b := (a0.2.2.2.2.1 == (0 : Int))) (by kernel_rfl) (fun hb => ?_) (fun hb => ?_)
                · replace h := cond_t h hb; clear hb
                  refine VO.seg T_ok .dp 5 [3, 4] [1] (s' := ⟨[(3, .lf (.ptr 0 0 0 0)), (4, B (!a0.2.2.2.2.2.1))], [bx [.v (.int .i64) (0 : Int), .v .str a0.2.1, .v (.int .i64) a0.2.2.1, .v (.int .i64) a0.2.2.2.1, .v (.int .i64) a0.2.2.2.2.1, .v .bool a0.2.2.2.2.2.1, .v (.sl (.int .i64)) a0.2.2.2.2.2.2] 44]⟩) (φ := True ∧ True ∧ True ∧ True ∧ True ∧ True) (by kernel_rfl) ⟨trivial, trivial, trivial, trivial, trivial, trivial⟩ ?_
                  refine VO.nil ?_
                  exact arrive [.ren [3, 4] [0]] (by kernel_rfl) ⟨a0.2.1, a0.2.2.1, a0.2.2.2.1, a0.2.2.2.2.1, a0.2.2.2.2.2.1, a0.2.2.2.2.2.2, (!a0.2.2.2.2.2.1), rfl, h⟩
                · replace h := cond_f h hb; clear hb
                  refine VO.seg T_ok .dp 5 [3, 4] [1] (s' := ⟨[(3, .lf (.ptr 0 0 0 0)), (4, B false)], [bx [.v (.int .i64) (0 : Int), .v .str a0.2.1, .v (.int .i64) a0.2.2.1, .v (.int .i64) a0.2.2.2.1, .v (.int .i64) a0.2.2.2.2.1, .v .bool a0.2.2.2.2.2.1, .v (.sl (.int .i64)) a0.2.2.2.2.2.2] 44]⟩) (φ := True ∧ True ∧ True ∧ True ∧ True ∧ True) (by kernel_rfl) ⟨trivial, trivial, trivial, trivial, trivial, trivial⟩ ?_
                  refine VO.nil ?_
                  exact arrive [.ren [3, 4] [0]] (by kernel_rfl) ⟨a0.2.1, a0.2.2.1, a0.2.2.2.1, a0.2.2.2.2.1, a0.2.2.2.2.2.1, a0.2.2.2.2.2.2, false, rfl, h⟩
              · replace h := cond_f h hb; clear hb
                refine VO.seg T_ok .dp 10 [3, 4] [1] (s' := ⟨[(3, .lf (.ptr 0 0 0 0)), (4, B false)], [bx [.v (.int .i64) (0 : Int), .v .str a0.2.1, .v (.int .i64) a0.2.2.1, .v (.int .i64) a0.2.2.2.1, .v (.int .i64) a0.2.2.2.2.1, .v .bool a0.2.2.2.2.2.1, .v (.sl (.int .i64)) a0.2.2.2.2.2.2] 44]⟩) (φ := True ∧ True ∧ True ∧ True ∧ True ∧ True ∧ True ∧ True ∧ True ∧ True ∧ True) (by kernel_rfl) ⟨trivial, trivial, trivial, trivial, trivial, trivial, trivial, trivial, trivial, trivial, trivial⟩ ?_
                refine VO.nil ?_
                exact arrive [.ren [3, 4] [0]] (by kernel_rfl) ⟨a0.2.1, a0.2.2.1, a0.2.2.2.1, a0.2.2.2.2.1, a0.2.2.2.2.2.1, a0.2.2.2.2.2.2, false, rfl, h⟩
            · replace h := cond_f h hb; clear hb
              refine VW.seq ?_
              refine VW.region ?_
              refine VO.seg T_ok .dp 3 [1, 3, 4, 46] [0, 1] (s' := ⟨[(1, .lf (.ptr 0 0 0 0)), (3, .lf (.ptr 1 0 0 0)), (4, B y49), (46, B a0.2.2.2.2.2.1)], [bx [.v (.int .i64) a0.1, .v .str a0.2.1, .v (.int .i64) a0.2.2.1, .v (.int .i64) a0.2.2.2.1, .v (.int .i64) a0.2.2.2.2.1, .v .bool a0.2.2.2.2.2.1, .v (.sl (.int .i64)) a0.2.2.2.2.2.2] 44, bx [.v (.int .i64) (0 : Int), .v .str a0.2.1, .v (.int .i64) a0.2.2.1, .v (.int .i64) a0.2.2.2.1, .v (.int .i64) a0.2.2.2.2.1, .v .bool a0.2.2.2.2.2.1, .v (.sl (.int .i64)) a0.2.2.2.2.2.2] 44]⟩) (φ := True ∧ True ∧ True ∧ True) (by kernel_rfl) ⟨trivial, trivial, trivial, trivial⟩ ?_
              refine VO.nil ?_
              show VW _ _ _ _ _ _ _
              refine VW.cond (b := a0.2.2.2.2.2.1) (by kernel_rfl) (fun hb => ?_) (fun hb => ?_)
              · replace h := cond_t h hb; clear hb
                refine VW.region ?_
                refine VO.seg T_ok .dp 2 [1, 3, 50] [0, 1] (s' := ⟨[(1, .lf (.ptr 0 0 0 0)), (3, .lf (.ptr 1 0 0 0)), (50, B y49)], [bx [.v (.int .i64) a0.1, .v .str a0.2.1, .v (.int .i64) a0.2.2.1, .v (.int .i64) a0.2.2.2.1, .v (.int .i64) a0.2.2.2.2.1, .v .bool a0.2.2.2.2.2.1, .v (.sl (.int .i64)) a0.2.2.2.2.2.2] 44, bx [.v (.int .i64) (0 : Int), .v .str a0.2.1, .v (.int .i64) a0.2.2.1, .v (.int .i64) a0.2.2.2.1, .v (.int .i64) a0.2.2.2.2.1, .v .bool a0.2.2.2.2.2.1, .v (.sl (.int .i64)) a0.2.2.2.2.2.2] 44]⟩) (φ := True ∧ True ∧ True) (by kernel_rfl) ⟨trivial, trivial, trivial⟩ ?_
                refine VO.splitB 50 (b := y49) (by kernel_rfl) (fun hb => ?_) (fun hb => ?_)
                · replace h := cond_t h hb; clear hb
                  refine VO.seg T_ok .dp 2 [3, 50, 52] [1] (s' := ⟨[(3, .lf (.ptr 0 0 0 0)), (50, B true), (52, I a0.2.2.2.2.1)], [bx [.v (.int .i64) (0 : Int), .v .str a0.2.1, .v (.int .i64) a0.2.2.1, .v (.int .i64) a0.2.2.2.1, .v (.int .i64) a0.2.2.2.2.1, .v .bool a0.2.2.2.2.2.1, .v (.sl (.int .i64)) a0.2.2.2.2.2.2] 44]⟩) (φ := True ∧ True ∧ True) (by kernel_rfl) ⟨trivial, trivial, trivial⟩ ?_
                  refine VO.on (j := 1) (want := true) (d := 50) (b := true) rfl rfl rfl (by kernel_rfl) rfl ?_
                  obtain ⟨y60, hy, h⟩ := andO_some h
                  refine VO.call false [.t (.int .i64)] [] T_ok (d := some 53) (by kernel_rfl) (ok55 N _ hy) rfl ?_
                  refine VO.seg T_ok .dp 2 [3, 4] [0] (s' := ⟨[(3, .lf (.ptr 0 0 0 0)), (4, B y60)], [bx [.v (.int .i64) (0 : Int), .v .str a0.2.1, .v (.int .i64) a0.2.2.1, .v (.int .i64) a0.2.2.2.1, .v (.int .i64) a0.2.2.2.2.1, .v .bool a0.2.2.2.2.2.1, .v (.sl (.int .i64)) a0.2.2.2.2.2.2] 44]⟩) (φ := True ∧ True ∧ True) (by kernel_rfl) ⟨trivial, trivial, trivial⟩ ?_
                  refine VO.nil ?_
                  exact arrive [.ren [3, 4] [0]] (by kernel_rfl) ⟨a0.2.1, a0.2.2.1, a0.2.2.2.1, a0.2.2.2.2.1, a0.2.2.2.2.2.1, a0.2.2.2.2.2.2, y60, rfl, h⟩
                · replace h := cond_f h hb; clear hb
                  refine VO.seg T_ok .dp 5 [3, 4] [1] (s' := ⟨[(3, .lf (.ptr 0 0 0 0)), (4, B false)], [bx [.v (.int .i64) (0 : Int), .v .str a0.2.1, .v (.int .i64) a0.2.2.1, .v (.int .i64) a0.2.2.2.1, .v (.int .i64) a0.2.2.2.2.1, .v .bool a0.2.2.2.2.2.1, .v (.sl (.int .i64)) a0.2.2.2.2.2.2] 44]⟩) (φ := True ∧ True ∧ True ∧ True ∧ True ∧ True) (by kernel_rfl) ⟨trivial, trivial, trivial, trivial, trivial, trivial⟩ ?_
                  refine VO.nil ?_
                  exact arrive [.ren [3, 4] [0]] (by kernel_rfl) ⟨a0.2.1, a0.2.2.1, a0.2.2.2.1, a0.2.2.2.2.1, a0.2.2.2.2.2.1, a0.2.2.2.2.2.2, false, rfl, h⟩
              · replace h := cond_f h hb; clear hb
                refine VW.region ?_
                refine VO.seg T_ok .dp 2 [1, 3, 26] [0, 1] (s' := ⟨[(1, .lf (.ptr 0 0 0 0)), (3, .lf (.ptr 1 0 0 0)), (26, B y49)], [bx [.v (.int .i64) a0.1, .v .str a0.2.1, .v (.int .i64) a0.2.2.1, .v (.int .i64) a0.2.2.2.1, .v (.int .i64) a0.2.2.2.2.1, .v .bool a0.2.2.2.2.2.1, .v (.sl (.int .i64)) a0.2.2.2.2.2.2] 44, bx [.v (.int .i64) (0 : Int), .v .str a0.2.1, .v (.int .i64) a0.2.2.1, .v (.int .i64) a0.2.2.2.1, .v (.int .i64) a0.2.2.2.2.1, .v .bool a0.2.2.2.2.2.1, .v (.sl (.int .i64)) a0.2.2.2.2.2.2] 44]⟩) (φ := True ∧ True ∧ True) (by kernel_rfl) ⟨trivial, trivial, trivial⟩ ?_
                refine VO.splitB 26 (b := y49) (by kernel_rfl) (fun hb => ?_) (fun hb => ?_)
                · replace h := cond_t h hb; clear hb
                  refine VO.seg T_ok .dp 2 [3, 26, 28] [1] (s' := ⟨[(3, .lf (.ptr 0 0 0 0)), (26, B true), (28, I a0.2.2.2.2.1)], [bx [.v (.int .i64) (0 : Int), .v .str a0.2.1, .v (.int .i64) a0.2.2.1, .v (.int .i64) a0.2.2.2.1, .v (.int .i64) a0.2.2.2.2.1, .v .bool a0.2.2.2.2.2.1, .v (.sl (.int .i64)) a0.2.2.2.2.2.2] 44]⟩) (φ := True ∧ True ∧ True) (by kernel_rfl) ⟨trivial, trivial, trivial⟩ ?_
                  refine VO.on (j := 1) (want := true) (d := 26) (b := true) rfl rfl rfl (by kernel_rfl) rfl ?_
                  obtain ⟨y61, hy, h⟩ := andO_some h
                  refine VO.call false [.t (.int .i64)] [] T_ok (d := some 29) (by kernel_rfl) (ok56 N _ hy) rfl ?_
                  refine VO.seg T_ok .dp 2 [3, 4] [0] (s' := ⟨[(3, .lf (.ptr 0 0 0 0)), (4, B y61)], [bx [.v (.int .i64) (0 : Int), .v .str a0.2.1, .v (.int .i64) a0.2.2.1, .v (.int .i64) a0.2.2.2.1, .v (.int .i64) a0.2.2.2.2.1, .v .bool a0.2.2.2.2.2.1, .v (.sl (.int .i64)) a0.2.2.2.2.2.2] 44]⟩) (φ := True ∧ True ∧ True) (by kernel_rfl) ⟨trivial, trivial, trivial⟩ ?_
                  refine VO.nil ?_
                  exact arrive [.ren [3, 4] [0]] (by kernel_rfl) ⟨a0.2.1, a0.2.2.1, a0.2.2.2.1, a0.2.2.2.2.1, a0.2.2.2.2.2.1, a0.2.2.2.2.2.2, y61, rfl, h⟩
                · replace h := cond_f h hb; clear hb
                  refine VO.seg T_ok .dp 5 [3, 4] [1] (s' := ⟨[(3, .lf (.ptr 0 0 0 0)), (4, B false)], [bx [.v (.int .i64) (0 : Int), .v .str a0.2.1, .v (.int .i64) a0.2.2.1, .v (.int .i64) a0.2.2.2.1, .v (.int .i64) a0.2.2.2.2.1, .v .bool a0.2.2.2.2.2.1, .v (.sl (.int .i64)) a0.2.2.2.2.2.2] 44]⟩) (φ := True ∧ True ∧ True ∧ True ∧ True ∧ True) (by kernel_rfl) ⟨trivial, trivial, trivial, trivial, trivial, trivial⟩ ?_
                  refine VO.nil ?_
                  exact arrive [.ren [3, 4] [0]] (by kernel_rfl) ⟨a0.2.1, a0.2.2.1, a0.2.2.2.1, a0.2.2.2.2.1, a0.2.2.2.2.2.1, a0.2.2.2.2.2.2, false, rfl, h⟩
          · rintro s ⟨x52, x53, x54, x55, x56, x57, x58, rfl, h⟩
            unfold F43_j1 at h
            refine VW.region ?_
            refine VO.seg T_ok .dp 8 [3, 4] [0] (s' := ⟨[(3, .lf (.ptr 0 0 0 0)), (4, B x58)], [bx [.v (.int .i64) (0 : Int), .v .str x52, .v (.int .i64) (0 : Int), .v (.int .i64) (0 : Int), .v (.int .i64) (0 : Int), .v .bool false, .v (.sl (.int .i64)) x57] 44]⟩) (φ := True ∧ True ∧ True ∧ True ∧ True ∧ True ∧ True ∧ True ∧ True) (by kernel_rfl) ⟨trivial, trivial, trivial, trivial, trivial, trivial, trivial, trivial, trivial⟩ ?_
            refine VO.nil ?_
            exact arrive [.ren [3, 4] [0]] (by kernel_rfl) ⟨x52, (0 : Int), (0 : Int), (0 : Int), false, x57, x58, rfl, h⟩
        · replace h := cond_f h hb; clear hb
          refine VO.seg T_ok .dp 5 [1, 3, 4] [0, 1] (s' := ⟨[(1, .lf (.ptr 0 0 0 0)), (3, .lf (.ptr 1 0 0 0)), (4, B false)], [bx [.v (.int .i64) a0.1, .v .str a0.2.1, .v (.int .i64) a0.2.2.1, .v (.int .i64) a0.2.2.2.1, .v (.int .i64) a0.2.2.2.2.1, .v .bool a0.2.2.2.2.2.1, .v (.sl (.int .i64)) a0.2.2.2.2.2.2] 44, bx [.v (.int .i64) (0 : Int), .v .str a0.2.1, .v (.int .i64) a0.2.2.1, .v (.int .i64) a0.2.2.2.1, .v (.int .i64) a0.2.2.2.2.1, .v .bool a0.2.2.2.2.2.1, .v (.sl (.int .i64)) a0.2.2.2.2.2.2] 44]⟩) (φ := True ∧ True ∧ True ∧ True ∧ True ∧ True) (by kernel_rfl) ⟨trivial, trivial, trivial, trivial, trivial, trivial⟩ ?_
          refine VO.nil ?_
          show VW _ _ _ _ _ _ _
          refine VW.join (fun s => ∃ (x62 : ByteArray) (x63 : Int) (x64 : Int) (x65 : Int) (x66 : Bool) (x67 : (List Int)), s = ⟨[(3, .lf (.ptr 0 0 0 0)), (4, B false)], [bx [.v (.int .i64) (0 : Int), .v .str x62, .v (.int .i64) x63, .v (.int .i64) x64, .v (.int .i64) x65, .v .bool x66, .v (.sl (.int .i64)) x67] 44]⟩ ∧ F43_j2 N x62 x63 x64 x65 x66 x67 = some r) ?_ ?_
          · refine VW.block ?_
            refine VW.seq ?_
            refine VW.region ?_
            refine VO.seg T_ok .dp 4 [1, 3, 4, 31] [0, 1] (s' := ⟨[(1, .lf (.ptr 0 0 0 0)), (3, .lf (.ptr 1 0 0 0)), (4, B false), (31, B (a0.2.2.2.1 == (3 : Int)))], [bx [.v (.int .i64) a0.1, .v .str a0.2.1, .v (.int .i64) a0.2.2.1, .v (.int .i64) a0.2.2.2.1, .v (.int .i64) a0.2.2.2.2.1, .v .bool a0.2.2.2.2.2.1, .v (.sl (.int .i64)) a0.2.2.2.2.2.2] 44, bx [.v (.int .i64) (0 : Int), .v .str a0.2.1, .v (.int .i64) a0.2.2.1, .v (.int .i64) a0.2.2.2.1, .v (.int .i64) a0.2.2.2.2.1, .v .bool a0.2.2.2.2.2.1, .v (.sl (.int .i64)) a0.2.2.2.2.2.2] 44]⟩) (φ := True ∧ True ∧ True ∧ True ∧ True) (by kernel_rfl) ⟨trivial, trivial, trivial, trivial, trivial⟩ ?_
            refine VO.nil ?_
            show VW _ _ _ _ _ _ _
            refine VW.cond (b := (a0.2.2.2.1 == (3 : Int))) (by kernel_rfl) (fun hb => ?_) (fun hb => ?_)
            · replace h := cond_t h hb; clear hb
              refine VW.region ?_
              refine VO.seg T_ok .dp 12 [3, 4] [1] (s' := ⟨[(3, .lf (.ptr 0 0 0 0)), (4, B false)], [bx [.v (.int .i64) (0 : Int), .v .str a0.2.1, .v (.int .i64) a0.2.2.1, .v (.int .i64) a0.2.2.2.1, .v (.int .i64) a0.2.2.2.2.1, .v .bool a0.2.2.2.2.2.1, .v (.sl (.int .i64)) a0.2.2.2.2.2.2] 44]⟩) (φ := True ∧ True ∧ True ∧ True ∧ True ∧ True ∧ True ∧ True ∧ True ∧ True ∧ True ∧ True ∧ True) (by kernel_rfl) ⟨trivial, trivial, trivial, trivial, trivial, trivial, trivial, trivial, trivial, trivial, trivial, trivial, trivial⟩ ?_
              refine VO.nil ?_
              exact arrive [.ren [3, 4] [0]] (by kernel_rfl) ⟨a0.2.1, a0.2.2.1, a0.2.2.2.1, a0.2.2.2.2.1, a0.2.2.2.2.2.1, a0.2.2.2.2.2.2, rfl, h⟩
            · replace h := cond_f h hb; clear hb
              refine VW.seq ?_
              refine VW.region ?_
              refine VO.seg T_ok .dp 3 [1, 3, 4, 46] [0, 1] (s' := ⟨[(1, .lf (.ptr 0 0 0 0)), (3, .lf (.ptr 1 0 0 0)), (4, B false), (46, B a0.2.2.2.2.2.1)], [bx [.v (.int .i64) a0.1, .v .str a0.2.1, .v (.int .i64) a0.2.2.1, .v (.int .i64) a0.2.2.2.1, .v (.int .i64) a0.2.2.2.2.1, .v .bool a0.2.2.2.2.2.1, .v (.sl (.int .i64)) a0.2.2.2.2.2.2] 44, bx [.v (.int .i64) (0 : Int), .v .str a0.2.1, .v (.int .i64) a0.2.2.1, .v (.int .i64) a0.2.2.2.1, .v (.int .i64) a0.2.2.2.2.1, .v .bool a0.2.2.2.2.2.1, .v (.sl (.int .i64)) a0.2.2.2.2.2.2] 44]⟩) (φ := True ∧ True ∧ True ∧ True) (by kernel_rfl) ⟨trivial, trivial, trivial, trivial⟩ ?_
              refine VO.nil ?_
              show VW _ _ _ _ _ _ _
              refine VW.cond (b := a0.2.2.2.2.2.1) (by kernel_rfl) (fun hb => ?_) (fun hb => ?_)
              · replace h := cond_t h hb; clear hb
                refine VW.region ?_
                refine VO.seg T_ok .dp 7 [3, 4] [1] (s' := ⟨[(3, .lf (.ptr 0 0 0 0)), (4, B false)], [bx [.v (.int .i64) (0 : Int), .v .str a0.2.1, .v (.int .i64) a0.2.2.1, .v (.int .i64) a0.2.2.2.1, .v (.int .i64) a0.2.2.2.2.1, .v .bool a0.2.2.2.2.2.1, .v (.sl (.int .i64)) a0.2.2.2.2.2.2] 44]⟩) (φ := True ∧ True ∧ True ∧ True ∧ True ∧ True ∧ True ∧ True) (by kernel_rfl) ⟨trivial, trivial, trivial, trivial, trivial, trivial, trivial, trivial⟩ ?_
                refine VO.nil ?_
                exact arrive [.ren [3, 4] [0]] (by kernel_rfl) ⟨a0.2.1, a0.2.2.1, a0.2.2.2.1, a0.2.2.2.2.1, a0.2.2.2.2.2.1, a0.2.2.2.2.2.2, rfl, h⟩
              · replace h := cond_f h hb; clear hb
                refine VW.region ?_
                refine VO.seg T_ok .dp 7 [3, 4] [1] (s' := ⟨[(3, .lf (.ptr 0 0 0 0)), (4, B false)], [bx [.v (.int .i64) (0 : Int), .v .str a0.2.1, .v (.int .i64) a0.2.2.1, .v (.int .i64) a0.2.2.2.1, .v (.int .i64) a0.2.2.2.2.1, .v .bool a0.2.2.2.2.2.1, .v (.sl (.int .i64)) a0.2.2.2.2.2.2] 44]⟩) (φ := True ∧ True ∧ True ∧ True ∧ True ∧ True ∧ True ∧ True) (by kernel_rfl) ⟨trivial, trivial, trivial, trivial, trivial, trivial, trivial, trivial⟩ ?_
                refine VO.nil ?_
                exact arrive [.ren [3, 4] [0]] (by kernel_rfl) ⟨a0.2.1, a0.2.2.1, a0.2.2.2.1, a0.2.2.2.2.1, a0.2.2.2.2.2.1, a0.2.2.2.2.2.2, rfl, h⟩
          · rintro s ⟨x62, x63, x64, x65, x66, x67, rfl, h⟩
            unfold F43_j2 at h
            refine VW.region ?_
            refine VO.seg T_ok .dp 8 [3, 4] [0] (s' := ⟨[(3, .lf (.ptr 0 0 0 0)), (4, B false)], [bx [.v (.int .i64) (0 : Int), .v .str x62, .v (.int .i64) (0 : Int), .v (.int .i64) (0 : Int), .v (.int .i64) (0 : Int), .v .bool false, .v (.sl (.int .i64)) x67] 44]⟩) (φ := True ∧ True ∧ True ∧ True ∧ True ∧ True ∧ True ∧ True ∧ True) (by kernel_rfl) ⟨trivial, trivial, trivial, trivial, trivial, trivial, trivial, trivial, trivial⟩ ?_
            refine VO.nil ?_
            exact arrive [.ren [3, 4] [0]] (by kernel_rfl) ⟨x62, (0 : Int), (0 : Int), (0 : Int), false, x67, false, rfl, h⟩
      · replace h := cond_f h hb; clear hb
        refine VW.seq ?_
        refine VW.region ?_
        refine VO.seg T_ok .dp 2 [1, 3, 4, 8, 59] [0, 1] (s' := ⟨[(1, .lf (.ptr 0 0 0 0)), (3, .lf (.ptr 1 0 0 0)), (4, B false), (8, I a0.1), (59, B (a0.1 == (2 : Int)))], [bx [.v (.int .i64) a0.1, .v .str a0.2.1, .v (.int .i64) a0.2.2.1, .v (.int .i64) a0.2.2.2.1, .v (.int .i64) a0.2.2.2.2.1, .v .bool a0.2.2.2.2.2.1, .v (.sl (.int .i64)) a0.2.2.2.2.2.2] 44, bx [.v (.int .i64) (0 : Int), .v .str a0.2.1, .v (.int .i64) a0.2.2.1, .v (.int .i64) a0.2.2.2.1, .v (.int .i64) a0.2.2.2.2.1, .v .bool a0.2.2.2.2.2.1, .v (.sl (.int .i64)) a0.2.2.2.2.2.2] 44]⟩) (φ := True ∧ True ∧ True) (by kernel_rfl) ⟨trivial, trivial, trivial⟩ ?_
        refine VO.nil ?_
        show VW _ _ _ _ _ _ _
        refine VW.cond (b := (a0.1 == (2 : Int))) (by kernel_rfl) (fun hb => ?_) (fun hb => ?_)
        · replace h := cond_t h hb; clear hb
          refine VW.seq ?_
          refine VW.region ?_
          refine VO.seg T_ok .dp 3 [1, 3, 63] [0, 1] (s' := ⟨[(1, .lf (.ptr 0 0 0 0)), (3, .lf (.ptr 1 0 0 0)), (63, I (a0.2.2.2.2.2.2.length : Int))], [bx [.v (.int .i64) a0.1, .v .str a0.2.1, .v (.int .i64) a0.2.2.1, .v (.int .i64) a0.2.2.2.1, .v (.int .i64) a0.2.2.2.2.1, .v .bool a0.2.2.2.2.2.1, .v (.sl (.int .i64)) a0.2.2.2.2.2.2] 44, bx [.v (.int .i64) (0 : Int), .v .str a0.2.1, .v (.int .i64) a0.2.2.1, .v (.int .i64) a0.2.2.2.1, .v (.int .i64) a0.2.2.2.2.1, .v .bool a0.2.2.2.2.2.1, .v (.sl (.int .i64)) a0.2.2.2.2.2.2] 44]⟩) (φ := True ∧ True ∧ True ∧ True) (by kernel_rfl) ⟨trivial, trivial, trivial, trivial⟩ ?_
          obtain ⟨y69, hy, h⟩ := andO_some h
          refine VO.call false [.t (.int .i64), .t (.int .i64), .t (.int .i64)] [] T_ok (d := some 64) (by kernel_rfl) (ok40 N _ _ _ hy) rfl ?_
          refine VO.seg T_ok .dp 1 [1, 3, 65] [0, 1] (s' := ⟨[(1, .lf (.ptr 0 0 0 0)), (3, .lf (.ptr 1 0 0 0)), (65, B y69)], [bx [.v (.int .i64) a0.1, .v .str a0.2.1, .v (.int .i64) a0.2.2.1, .v (.int .i64) a0.2.2.2.1, .v (.int .i64) a0.2.2.2.2.1, .v .bool a0.2.2.2.2.2.1, .v (.sl (.int .i64)) a0.2.2.2.2.2.2] 44, bx [.v (.int .i64) (0 : Int), .v .str a0.2.1, .v (.int .i64) a0.2.2.1, .v (.int .i64) a0.2.2.2.1, .v (.int .i64) a0.2.2.2.2.1, .v .bool a0.2.2.2.2.2.1, .v (.sl (.int .i64)) a0.2.2.2.2.2.2] 44]⟩) (φ := True ∧ True) (by kernel_rfl) ⟨trivial, trivial⟩ ?_
          refine VO.splitB 65 (b := y69) (by kernel_rfl) (fun hb => ?_) (fun hb => ?_)
          · replace h := cond_t h hb; clear hb
            refine VO.seg T_ok .dp 2 [3, 65, 67] [1] (s' := ⟨[(3, .lf (.ptr 0 0 0 0)), (65, B true), (67, .lf (.v (.sl (.int .i64)) a0.2.2.2.2.2.2))], [bx [.v (.int .i64) (0 : Int), .v .str a0.2.1, .v (.int .i64) a0.2.2.1, .v (.int .i64) a0.2.2.2.1, .v (.int .i64) a0.2.2.2.2.1, .v .bool a0.2.2.2.2.2.1, .v (.sl (.int .i64)) a0.2.2.2.2.2.2] 44]⟩) (φ := True ∧ True ∧ True) (by kernel_rfl) ⟨trivial, trivial, trivial⟩ ?_
            refine VO.on (j := 4) (want := true) (d := 65) (b := true) rfl rfl rfl (by kernel_rfl) rfl ?_
            obtain ⟨y70, hy, h⟩ := andO_some h
            refine VO.call false [.t (.sl (.int .i64)), .clo []] [] T_ok (d := some 68) (by kernel_rfl) (ok57 N _ 58  (fun z0 => F58 N z0 ) (fun z0 _ hz => ok58 N z0 hz) hy) rfl ?_
            refine VO.seg T_ok .dp 3 [3, 4] [0] (s' := ⟨[(3, .lf (.ptr 0 0 0 0)), (4, B (!y70))], [bx [.v (.int .i64) (0 : Int), .v .str a0.2.1, .v (.int .i64) a0.2.2.1, .v (.int .i64) a0.2.2.2.1, .v (.int .i64) a0.2.2.2.2.1, .v .bool a0.2.2.2.2.2.1, .v (.sl (.int .i64)) a0.2.2.2.2.2.2] 44]⟩) (φ := True ∧ True ∧ True ∧ True) (by kernel_rfl) ⟨trivial, trivial, trivial, trivial⟩ ?_
            refine VO.nil ?_
            show VW _ _ _ _ _ _ _
            refine VW.region ?_
            refine VO.seg T_ok .dp 2 [3, 4] [0] (s' := ⟨[(3, .lf (.ptr 0 0 0 0)), (4, B (!y70))], [bx [.v (.int .i64) (0 : Int), .v .str a0.2.1, .v (.int .i64) a0.2.2.1, .v (.int .i64) a0.2.2.2.1, .v (.int .i64) a0.2.2.2.2.1, .v .bool a0.2.2.2.2.2.1, .nil] 44]⟩) (φ := True ∧ True ∧ True) (by kernel_rfl) ⟨trivial, trivial, trivial⟩ ?_
            refine VO.nil ?_
            exact arrive [.nilB 0 6 (.int .i64), .ren [3, 4] [0]] (by kernel_rfl) ⟨a0.2.1, a0.2.2.1, a0.2.2.2.1, a0.2.2.2.2.1, a0.2.2.2.2.2.1, [], (!y70), rfl, h⟩
          · replace h := cond_f h hb; clear hb
            refine VO.seg T_ok .dp 6 [3, 4] [1] (s' := ⟨[(3, .lf (.ptr 0 0 0 0)), (4, B false)], [bx [.v (.int .i64) (0 : Int), .v .str a0.2.1, .v (.int .i64) a0.2.2.1, .v (.int .i64) a0.2.2.2.1, .v (.int .i64) a0.2.2.2.2.1, .v .bool a0.2.2.2.2.2.1, .v (.sl (.int .i64)) a0.2.2.2.2.2.2] 44]⟩) (φ := True ∧ True ∧ True ∧ True ∧ True ∧ True ∧ True) (by kernel_rfl) ⟨trivial, trivial, trivial, trivial, trivial, trivial, trivial⟩ ?_
            refine VO.nil ?_
            show VW _ _ _ _ _ _ _
            refine VW.region ?_
            refine VO.seg T_ok .dp 2 [3, 4] [0] (s' := ⟨[(3, .lf (.ptr 0 0 0 0)), (4, B false)], [bx [.v (.int .i64) (0 : Int), .v .str a0.2.1, .v (.int .i64) a0.2.2.1, .v (.int .i64) a0.2.2.2.1, .v (.int .i64) a0.2.2.2.2.1, .v .bool a0.2.2.2.2.2.1, .nil] 44]⟩) (φ := True ∧ True ∧ True) (by kernel_rfl) ⟨trivial, trivial, trivial⟩ ?_
            refine VO.nil ?_
            exact arrive [.nilB 0 6 (.int .i64), .ren [3, 4] [0]] (by kernel_rfl) ⟨a0.2.1, a0.2.2.1, a0.2.2.2.1, a0.2.2.2.2.1, a0.2.2.2.2.2.1, [], false, rfl, h⟩
        · replace h := cond_f h hb; clear hb
          refine VW.seq ?_
          refine VW.region ?_
          refine VO.seg T_ok .dp 2 [1, 3, 4, 8, 72] [0, 1] (s' := ⟨[(1, .lf (.ptr 0 0 0 0)), (3, .lf (.ptr 1 0 0 0)), (4, B false), (8, I a0.1), (72, B (a0.1 == (3 : Int)))], [bx [.v (.int .i64) a0.1, .v .str a0.2.1, .v (.int .i64) a0.2.2.1, .v (.int .i64) a0.2.2.2.1, .v (.int .i64) a0.2.2.2.2.1, .v .bool a0.2.2.2.2.2.1, .v (.sl (.int .i64)) a0.2.2.2.2.2.2] 44, bx [.v (.int .i64) (0 : Int), .v .str a0.2.1, .v (.int .i64) a0.2.2.1, .v (.int .i64) a0.2.2.2.1, .v (.int .i64) a0.2.2.2.2.1, .v .bool a0.2.2.2.2.2.1, .v (.sl (.int .i64)) a0.2.2.2.2.2.2] 44]⟩) (φ := True ∧ True ∧ True) (by kernel_rfl) ⟨trivial, trivial, trivial⟩ ?_
          refine VO.nil ?_
          show VW _ _ _ _ _ _ _
          refine VW.cond (b := (a0.1 == (3 : Int))) (by kernel_rfl) (fun hb => ?_) (fun hb => ?_)
          · replace h := cond_t h hb; clear hb
            refine VW.seq ?_
            refine VW.region ?_
            refine VO.seg T_ok .dp 2 [1, 3, 75] [0, 1] (s' := ⟨[(1, .lf (.ptr 0 0 0 0)), (3, .lf (.ptr 1 0 0 0)), (75, I a0.2.2.1)], [bx [.v (.int .i64) a0.1, .v .str a0.2.1, .v (.int .i64) a0.2.2.1, .v (.int .i64) a0.2.2.2.1, .v (.int .i64) a0.2.2.2.2.1, .v .bool a0.2.2.2.2.2.1, .v (.sl (.int .i64)) a0.2.2.2.2.2.2] 44, bx [.v (.int .i64) (0 : Int), .v .str a0.2.1, .v (.int .i64) a0.2.2.1, .v (.int .i64) a0.2.2.2.1, .v (.int .i64) a0.2.2.2.2.1, .v .bool a0.2.2.2.2.2.1, .v (.sl (.int .i64)) a0.2.2.2.2.2.2] 44]⟩) (φ := True ∧ True ∧ True) (by kernel_rfl) ⟨trivial, trivial, trivial⟩ ?_
            obtain ⟨y71, hy, h⟩ := andO_some h
            refine VO.call false [.t (.int .i64)] [] T_ok (d := some 76) (by kernel_rfl) (ok54 N _ hy) rfl ?_
            refine VO.seg T_ok .dp 1 [1, 3, 77] [0, 1] (s' := ⟨[(1, .lf (.ptr 0 0 0 0)), (3, .lf (.ptr 1 0 0 0)), (77, B y71)], [bx [.v (.int .i64) a0.1, .v .str a0.2.1, .v (.int .i64) a0.2.2.1, .v (.int .i64) a0.2.2.2.1, .v (.int .i64) a0.2.2.2.2.1, .v .bool a0.2.2.2.2.2.1, .v (.sl (.int .i64)) a0.2.2.2.2.2.2] 44, bx [.v (.int .i64) (0 : Int), .v .str a0.2.1, .v (.int .i64) a0.2.2.1, .v (.int .i64) a0.2.2.2.1, .v (.int .i64) a0.2.2.2.2.1, .v .bool a0.2.2.2.2.2.1, .v (.sl (.int .i64)) a0.2.2.2.2.2.2] 44]⟩) (φ := True ∧ True) (by kernel_rfl) ⟨trivial, trivial⟩ ?_
            refine VO.splitB 77 (b := y71) (by kernel_rfl) (fun hb => ?_) (fun hb => ?_)
            · replace h := cond_t h hb; clear hb
              refine VO.seg T_ok .dp 2 [3, 77, 79] [1] (s' := ⟨[(3, .lf (.ptr 0 0 0 0)), (77, B true), (79, I a0.2.2.2.2.1)], [bx [.v (.int .i64) (0 : Int), .v .str a0.2.1, .v (.int .i64) a0.2.2.1, .v (.int .i64) a0.2.2.2.1, .v (.int .i64) a0.2.2.2.2.1, .v .bool a0.2.2.2.2.2.1, .v (.sl (.int .i64)) a0.2.2.2.2.2.2] 44]⟩) (φ := True ∧ True ∧ True) (by kernel_rfl) ⟨trivial, trivial, trivial⟩ ?_
              refine VO.on (j := 3) (want := true) (d := 77) (b := true) rfl rfl rfl (by kernel_rfl) rfl ?_
              obtain ⟨y72, hy, h⟩ := andO_some h
              refine VO.call false [.t (.int .i64)] [] T_ok (d := some 80) (by kernel_rfl) (ok54 N _ hy) rfl ?_
              refine VO.seg T_ok .dp 2 [3, 4] [0] (s' := ⟨[(3, .lf (.ptr 0 0 0 0)), (4, B y72)], [bx [.v (.int .i64) (0 : Int), .v .str a0.2.1, .v (.int .i64) a0.2.2.1, .v (.int .i64) a0.2.2.2.1, .v (.int .i64) a0.2.2.2.2.1, .v .bool a0.2.2.2.2.2.1, .v (.sl (.int .i64)) a0.2.2.2.2.2.2] 44]⟩) (φ := True ∧ True ∧ True) (by kernel_rfl) ⟨trivial, trivial, trivial⟩ ?_
              refine VO.nil ?_
              show VW _ _ _ _ _ _ _
              refine VW.region ?_
              refine VO.seg T_ok .dp 4 [3, 4] [0] (s' := ⟨[(3, .lf (.ptr 0 0 0 0)), (4, B y72)], [bx [.v (.int .i64) (0 : Int), .v .str a0.2.1, .v (.int .i64) (0 : Int), .v (.int .i64) a0.2.2.2.1, .v (.int .i64) (0 : Int), .v .bool a0.2.2.2.2.2.1, .v (.sl (.int .i64)) a0.2.2.2.2.2.2] 44]⟩) (φ := True ∧ True ∧ True ∧ True ∧ True) (by kernel_rfl) ⟨trivial, trivial, trivial, trivial, trivial⟩ ?_
              refine VO.nil ?_
              exact arrive [.ren [3, 4] [0]] (by kernel_rfl) ⟨a0.2.1, (0 : Int), a0.2.2.2.1, (0 : Int), a0.2.2.2.2.2.1, a0.2.2.2.2.2.2, y72, rfl, h⟩
            · replace h := cond_f h hb; clear hb
              refine VO.seg T_ok .dp 5 [3, 4] [1] (s' := ⟨[(3, .lf (.ptr 0 0 0 0)), (4, B false)], [bx [.v (.int .i64) (0 : Int), .v .str a0.2.1, .v (.int .i64) a0.2.2.1, .v (.int .i64) a0.2.2.2.1, .v (.int .i64) a0.2.2.2.2.1, .v .bool a0.2.2.2.2.2.1, .v (.sl (.int .i64)) a0.2.2.2.2.2.2] 44]⟩) (φ := True ∧ True ∧ True ∧ True ∧ True ∧ True) (by kernel_rfl) ⟨trivial, trivial, trivial, trivial, trivial, trivial⟩ ?_
              refine VO.nil ?_
              show VW _ _ _ _ _ _ _
              refine VW.region ?_
              refine VO.seg T_ok .dp 4 [3, 4] [0] (s' := ⟨[(3, .lf (.ptr 0 0 0 0)), (4, B false)], [bx [.v (.int .i64) (0 : Int), .v .str a0.2.1, .v (.int .i64) (0 : Int), .v (.int .i64) a0.2.2.2.1, .v (.int .i64) (0 : Int), .v .bool a0.2.2.2.2.2.1, .v (.sl (.int .i64)) a0.2.2.2.2.2.2] 44]⟩) (φ := True ∧ True ∧ True ∧ True ∧ True) (by kernel_rfl) ⟨trivial, trivial, trivial, trivial, trivial⟩ ?_
              refine VO.nil ?_
              exact arrive [.ren [3, 4] [0]] (by kernel_rfl) ⟨a0.2.1, (0 : Int), a0.2.2.2.1, (0 : Int), a0.2.2.2.2.2.1, a0.2.2.2.2.2.2, false, rfl, h⟩
          · replace h := cond_f h hb; clear hb
            refine VW.seq ?_
            refine VW.region ?_
            refine VO.seg T_ok .dp 2 [1, 3, 4, 8, 84] [0, 1] (s' := ⟨[(1, .lf (.ptr 0 0 0 0)), (3, .lf (.ptr 1 0 0 0)), (4, B false), (8, I a0.1), (84, B (a0.1 == (5 : Int)))], [bx [.v (.int .i64) a0.1, .v .str a0.2.1, .v (.int .i64) a0.2.2.1, .v (.int .i64) a0.2.2.2.1, .v (.int .i64) a0.2.2.2.2.1, .v .bool a0.2.2.2.2.2.1, .v (.sl (.int .i64)) a0.2.2.2.2.2.2] 44, bx [.v (.int .i64) (0 : Int), .v .str a0.2.1, .v (.int .i64) a0.2.2.1, .v (.int .i64) a0.2.2.2.1, .v (.int .i64) a0.2.2.2.2.1, .v .bool a0.2.2.2.2.2.1, .v (.sl (.int .i64)) a0.2.2.2.2.2.2] 44]⟩) (φ := True ∧ True ∧ True) (by kernel_rfl) ⟨trivial, trivial, trivial⟩ ?_
            refine VO.nil ?_
            show VW _ _ _ _ _ _ _
            refine VW.cond (b := (a0.1 == (5 : Int))) (by kernel_rfl) (fun hb => ?_) (fun hb => ?_)
            · replace h := cond_t h hb; clear hb
              refine VW.seq ?_
              refine VW.region ?_
              refine VO.seg T_ok .dp 2 [3, 87] [1] (s' := ⟨[(3, .lf (.ptr 0 0 0 0)), (87, I a0.2.2.1)], [bx [.v (.int .i64) (0 : Int), .v .str a0.2.1, .v (.int .i64) a0.2.2.1, .v (.int .i64) a0.2.2.2.1, .v (.int .i64) a0.2.2.2.2.1, .v .bool a0.2.2.2.2.2.1, .v (.sl (.int .i64)) a0.2.2.2.2.2.2] 44]⟩) (φ := True ∧ True ∧ True) (by kernel_rfl) ⟨trivial, trivial, trivial⟩ ?_
              obtain ⟨y73, hy, h⟩ := andO_some h
              refine VO.call false [.t (.int .i64)] [] T_ok (d := some 88) (by kernel_rfl) (ok54 N _ hy) rfl ?_
              refine VO.seg T_ok .dp 1 [3, 4] [0] (s' := ⟨[(3, .lf (.ptr 0 0 0 0)), (4, B y73)], [bx [.v (.int .i64) (0 : Int), .v .str a0.2.1, .v (.int .i64) a0.2.2.1, .v (.int .i64) a0.2.2.2.1, .v (.int .i64) a0.2.2.2.2.1, .v .bool a0.2.2.2.2.2.1, .v (.sl (.int .i64)) a0.2.2.2.2.2.2] 44]⟩) (φ := True ∧ True) (by kernel_rfl) ⟨trivial, trivial⟩ ?_
              refine VO.nil ?_
              show VW _ _ _ _ _ _ _
              refine VW.region ?_
              refine VO.seg T_ok .dp 2 [3, 4] [0] (s' := ⟨[(3, .lf (.ptr 0 0 0 0)), (4, B y73)], [bx [.v (.int .i64) (0 : Int), .v .str a0.2.1, .v (.int .i64) (0 : Int), .v (.int .i64) a0.2.2.2.1, .v (.int .i64) a0.2.2.2.2.1, .v .bool a0.2.2.2.2.2.1, .v (.sl (.int .i64)) a0.2.2.2.2.2.2] 44]⟩) (φ := True ∧ True ∧ True) (by kernel_rfl) ⟨trivial, trivial, trivial⟩ ?_
              refine VO.nil ?_
              exact arrive [.ren [3, 4] [0]] (by kernel_rfl) ⟨a0.2.1, (0 : Int), a0.2.2.2.1, a0.2.2.2.2.1, a0.2.2.2.2.2.1, a0.2.2.2.2.2.2, y73, rfl, h⟩
            · replace h := cond_f h hb; clear hb
              refine VW.seq ?_
              refine VW.region ?_
              refine VO.seg T_ok .dp 2 [1, 3, 4, 8, 90] [0, 1] (s' := ⟨[(1, .lf (.ptr 0 0 0 0)), (3, .lf (.ptr 1 0 0 0)), (4, B false), (8, I a0.1), (90, B (a0.1 == (6 : Int)))], [bx [.v (.int .i64) a0.1, .v .str a0.2.1, .v (.int .i64) a0.2.2.1, .v (.int .i64) a0.2.2.2.1, .v (.int .i64) a0.2.2.2.2.1, .v .bool a0.2.2.2.2.2.1, .v (.sl (.int .i64)) a0.2.2.2.2.2.2] 44, bx [.v (.int .i64) (0 : Int), .v .str a0.2.1, .v (.int .i64) a0.2.2.1, .v (.int .i64) a0.2.2.2.1, .v (.int .i64) a0.2.2.2.2.1, .v .bool a0.2.2.2.2.2.1, .v (.sl (.int .i64)) a0.2.2.2.2.2.2] 44]⟩) (φ := True ∧ True ∧ True) (by kernel_rfl) ⟨trivial, trivial, trivial⟩ ?_
              refine VO.nil ?_
              show VW _ _ _ _ _ _ _
              refine VW.cond (b := (a0.1 == (6 : Int))) (by kernel_rfl) (fun hb => ?_) (fun hb => ?_)
              · replace h := cond_t h hb; clear hb
                refine VW.seq ?_
                refine VW.region ?_
                refine VO.seg T_ok .dp 2 [1, 3, 93] [0, 1] (s' := ⟨[(1, .lf (.ptr 0 0 0 0)), (3, .lf (.ptr 1 0 0 0)), (93, I a0.2.2.2.2.1)], [bx [.v (.int .i64) a0.1, .v .str a0.2.1, .v (.int .i64) a0.2.2.1, .v (.int .i64) a0.2.2.2.1, .v (.int .i64) a0.2.2.2.2.1, .v .bool a0.2.2.2.2.2.1, .v (.sl (.int .i64)) a0.2.2.2.2.2.2] 44, bx [.v (.int .i64) (0 : Int), .v .str a0.2.1, .v (.int .i64) a0.2.2.1, .v (.int .i64) a0.2.2.2.1, .v (.int .i64) a0.2.2.2.2.1, .v .bool a0.2.2.2.2.2.1, .v (.sl (.int .i64)) a0.2.2.2.2.2.2] 44]⟩) (φ := True ∧ True ∧ True) (by kernel_rfl) ⟨trivial, trivial, trivial⟩ ?_
                obtain ⟨y74, hy, h⟩ := andO_some h
                refine VO.call false [.t (.int .i64), .t (.int .i64), .t (.int .i64)] [] T_ok (d := some 94) (by kernel_rfl) (ok40 N _ _ _ hy) rfl ?_
                refine VO.seg T_ok .dp 1 [1, 3, 95] [0, 1] (s' := ⟨[(1, .lf (.ptr 0 0 0 0)), (3, .lf (.ptr 1 0 0 0)), (95, B y74)], [bx [.v (.int .i64) a0.1, .v .str a0.2.1, .v (.int .i64) a0.2.2.1, .v (.int .i64) a0.2.2.2.1, .v (.int .i64) a0.2.2.2.2.1, .v .bool a0.2.2.2.2.2.1, .v (.sl (.int .i64)) a0.2.2.2.2.2.2] 44, bx [.v (.int .i64) (0 : Int), .v .str a0.2.1, .v (.int .i64) a0.2.2.1, .v (.int .i64) a0.2.2.2.1, .v (.int .i64) a0.2.2.2.2.1, .v .bool a0.2.2.2.2.2.1, .v (.sl (.int .i64)) a0.2.2.2.2.2.2] 44]⟩) (φ := True ∧ True) (by kernel_rfl) ⟨trivial, trivial⟩ ?_
                refine VO.splitB 95 (b := y74) (by kernel_rfl) (fun hb => ?_) (fun hb => ?_)
                · replace h := cond_t h hb; clear hb
                  refine VO.seg T_ok .dp 4 [1, 3, 95, 99] [0, 1] (s' := ⟨[(1, .lf (.ptr 0 0 0 0)), (3, .lf (.ptr 1 0 0 0)), (95, B true), (99, B (!a0.2.2.2.2.2.1))], [bx [.v (.int .i64) a0.1, .v .str a0.2.1, .v (.int .i64) a0.2.2.1, .v (.int .i64) a0.2.2.2.1, .v (.int .i64) a0.2.2.2.2.1, .v .bool a0.2.2.2.2.2.1, .v (.sl (.int .i64)) a0.2.2.2.2.2.2] 44, bx [.v (.int .i64) (0 : Int), .v .str a0.2.1, .v (.int .i64) a0.2.2.1, .v (.int .i64) a0.2.2.2.1, .v (.int .i64) a0.2.2.2.2.1, .v .bool a0.2.2.2.2.2.1, .v (.sl (.int .i64)) a0.2.2.2.2.2.2] 44]⟩) (φ := True ∧ True ∧ True ∧ True ∧ True) (by kernel_rfl) ⟨trivial, trivial, trivial, trivial, trivial⟩ ?_
                  refine VO.splitB 99 (b := (!a0.2.2.2.2.2.1)) (by kernel_rfl) (fun hb => ?_) (fun hb => ?_)
                  · replace h := cond_t h hb; clear hb
                    refine VO.seg T_ok .dp 6 [3, 4] [1] (s' := ⟨[(3, .lf (.ptr 0 0 0 0)), (4, B true)], [bx [.v (.int .i64) (0 : Int), .v .str a0.2.1, .v (.int .i64) a0.2.2.1, .v (.int .i64) a0.2.2.2.1, .v (.int .i64) a0.2.2.2.2.1, .v .bool a0.2.2.2.2.2.1, .v (.sl (.int .i64)) a0.2.2.2.2.2.2] 44]⟩) (φ := True ∧ True ∧ True ∧ True ∧ True ∧ True ∧ True) (by kernel_rfl) ⟨trivial, trivial, trivial, trivial, trivial, trivial, trivial⟩ ?_
                    refine VO.nil ?_
                    show VW _ _ _ _ _ _ _
                    refine VW.region ?_
                    refine VO.seg T_ok .dp 4 [3, 4] [0] (s' := ⟨[(3, .lf (.ptr 0 0 0 0)), (4, B true)], [bx [.v (.int .i64) (0 : Int), .v .str a0.2.1, .v (.int .i64) a0.2.2.1, .v (.int .i64) a0.2.2.2.1, .v (.int .i64) (0 : Int), .v .bool false, .v (.sl (.int .i64)) a0.2.2.2.2.2.2] 44]⟩) (φ := True ∧ True ∧ True ∧ True ∧ True) (by kernel_rfl) ⟨trivial, trivial, trivial, trivial, trivial⟩ ?_
                    refine VO.nil ?_
                    exact arrive [.ren [3, 4] [0]] (by kernel_rfl) ⟨a0.2.1, a0.2.2.1, a0.2.2.2.1, (0 : Int), false, a0.2.2.2.2.2.2, true, rfl, h⟩
                  · replace h := cond_f h hb; clear hb
                    refine VO.seg T_ok .dp 2 [3, 95, 99, 101] [1] (s' := ⟨[(3, .lf (.ptr 0 0 0 0)), (95, B true), (99, B false), (101, I a0.2.2.2.2.1)], [bx [.v (.int .i64) (0 : Int), .v .str a0.2.1, .v (.int .i64) a0.2.2.1, .v (.int .i64) a0.2.2.2.1, .v (.int .i64) a0.2.2.2.2.1, .v .bool a0.2.2.2.2.2.1, .v (.sl (.int .i64)) a0.2.2.2.2.2.2] 44]⟩) (φ := True ∧ True ∧ True) (by kernel_rfl) ⟨trivial, trivial, trivial⟩ ?_
                    refine VO.on (j := 7) (want := false) (d := 99) (b := false) rfl rfl rfl (by kernel_rfl) rfl ?_
                    obtain ⟨y75, hy, h⟩ := andO_some h
                    refine VO.call false [.t (.int .i64)] [] T_ok (d := some 102) (by kernel_rfl) (ok55 N _ hy) rfl ?_
                    refine VO.seg T_ok .dp 3 [3, 4] [0] (s' := ⟨[(3, .lf (.ptr 0 0 0 0)), (4, B y75)], [bx [.v (.int .i64) (0 : Int), .v .str a0.2.1, .v (.int .i64) a0.2.2.1, .v (.int .i64) a0.2.2.2.1, .v (.int .i64) a0.2.2.2.2.1, .v .bool a0.2.2.2.2.2.1, .v (.sl (.int .i64)) a0.2.2.2.2.2.2] 44]⟩) (φ := True ∧ True ∧ True ∧ True) (by kernel_rfl) ⟨trivial, trivial, trivial, trivial⟩ ?_
                    refine VO.nil ?_
                    show VW _ _ _ _ _ _ _
                    refine VW.region ?_
                    refine VO.seg T_ok .dp 4 [3, 4] [0] (s' := ⟨[(3, .lf (.ptr 0 0 0 0)), (4, B y75)], [bx [.v (.int .i64) (0 : Int), .v .str a0.2.1, .v (.int .i64) a0.2.2.1, .v (.int .i64) a0.2.2.2.1, .v (.int .i64) (0 : Int), .v .bool false, .v (.sl (.int .i64)) a0.2.2.2.2.2.2] 44]⟩) (φ := True ∧ True ∧ True ∧ True ∧ True) (by kernel_rfl) ⟨trivial, trivial, trivial, trivial, trivial⟩ ?_
                    refine VO.nil ?_
                    exact arrive [.ren [3, 4] [0]] (by kernel_rfl) ⟨a0.2.1, a0.2.2.1, a0.2.2.2.1, (0 : Int), false, a0.2.2.2.2.2.2, y75, rfl, h⟩
                · replace h := cond_f h hb; clear hb
                  refine VO.seg T_ok .dp 10 [3, 4] [1] (s' := ⟨[(3, .lf (.ptr 0 0 0 0)), (4, B false)], [bx [.v (.int .i64) (0 : Int), .v .str a0.2.1, .v (.int .i64) a0.2.2.1, .v (.int .i64) a0.2.2.2.1, .v (.int .i64) a0.2.2.2.2.1, .v .bool a0.2.2.2.2.2.1, .v (.sl (.int .i64)) a0.2.2.2.2.2.2] 44]⟩) (φ := True ∧ True ∧ True ∧ True ∧ True ∧ True ∧ True ∧ True ∧ True ∧ True ∧ True) (by kernel_rfl) ⟨trivial, trivial, trivial, trivial, trivial, trivial, trivial, trivial, trivial, trivial, trivial⟩ ?_
                  refine VO.nil ?_
                  show VW _ _ _ _ _ _ _
                  refine VW.region ?_
                  refine VO.seg T_ok .dp 4 [3, 4] [0] (s' := ⟨[(3, .lf (.ptr 0 0 0 0)), (4, B false)], [bx [.v (.int .i64) (0 : Int), .v .str a0.2.1, .v (.int .i64) a0.2.2.1, .v (.int .i64) a0.2.2.2.1, .v (.int .i64) (0 : Int), .v .bool false, .v (.sl (.int .i64)) a0.2.2.2.2.2.2] 44]⟩) (φ := True ∧ True ∧ True ∧ True ∧ True) (by kernel_rfl) ⟨trivial, trivial, trivial, trivial, trivial⟩ ?_
                  refine VO.nil ?_
                  exact arrive [.ren [3, 4] [0]] (by kernel_rfl) ⟨a0.2.1, a0.2.2.1, a0.2.2.2.1, (0 : Int), false, a0.2.2.2.2.2.2, false, rfl, h⟩
              · replace h := cond_f h hb; clear hb
                refine VW.join (fun s => ∃ (x76 : ByteArray) (x77 : Int) (x78 : Int) (x79 : Int) (x80 : Bool) (x81 : (List Int)) (x82 : Bool), s = ⟨[(3, .lf (.ptr 0 0 0 0)), (4, B false), (107, B x82)], [bx [.v (.int .i64) (0 : Int), .v .str x76, .v (.int .i64) x77, .v (.int .i64) x78, .v (.int .i64) x79, .v .bool x80, .v (.sl (.int .i64)) x81] 44]⟩ ∧ F43_j3 N x76 x77 x78 x79 x80 x81 x82 = some r) ?_ ?_
                · refine VW.seq ?_
                  refine VW.region ?_
                  refine VO.seg T_ok .dp 2 [3, 4, 8, 107] [1] (s' := ⟨[(3, .lf (.ptr 0 0 0 0)), (4, B false), (8, I a0.1), (107, B (a0.1 == (4 : Int)))], [bx [.v (.int .i64) (0 : Int), .v .str a0.2.1, .v (.int .i64) a0.2.2.1, .v (.int .i64) a0.2.2.2.1, .v (.int .i64) a0.2.2.2.2.1, .v .bool a0.2.2.2.2.2.1, .v (.sl (.int .i64)) a0.2.2.2.2.2.2] 44]⟩) (φ := True ∧ True ∧ True) (by kernel_rfl) ⟨trivial, trivial, trivial⟩ ?_
                  refine VO.nil ?_
                  show VW _ _ _ _ _ _ _
                  refine VW.cond (b := (a0.1 == (4 : Int))) (by kernel_rfl) (fun hb => ?_) (fun hb => ?_)
                  · replace h := cond_t h hb; clear hb
                    refine VW.skip ?_
                    exact arrive [.ren [3, 4, 107] [0]] (by kernel_rfl) ⟨a0.2.1, a0.2.2.1, a0.2.2.2.1, a0.2.2.2.2.1, a0.2.2.2.2.2.1, a0.2.2.2.2.2.2, (a0.1 == (4 : Int)), rfl, h⟩
                  · replace h := cond_f h hb; clear hb
                    refine VW.region ?_
                    refine VO.seg T_ok .dp 2 [3, 4, 107] [0] (s' := ⟨[(3, .lf (.ptr 0 0 0 0)), (4, B false), (107, B (a0.1 == (7 : Int)))], [bx [.v (.int .i64) (0 : Int), .v .str a0.2.1, .v (.int .i64) a0.2.2.1, .v (.int .i64) a0.2.2.2.1, .v (.int .i64) a0.2.2.2.2.1, .v .bool a0.2.2.2.2.2.1, .v (.sl (.int .i64)) a0.2.2.2.2.2.2] 44]⟩) (φ := True ∧ True ∧ True) (by kernel_rfl) ⟨trivial, trivial, trivial⟩ ?_
                    refine VO.nil ?_
                    exact arrive [.ren [3, 4, 107] [0]] (by kernel_rfl) ⟨a0.2.1, a0.2.2.1, a0.2.2.2.1, a0.2.2.2.2.1, a0.2.2.2.2.2.1, a0.2.2.2.2.2.2, (a0.1 == (7 : Int)), rfl, h⟩
                · rintro s ⟨x76, x77, x78, x79, x80, x81, x82, rfl, h⟩
                  unfold F43_j3 at h
                  refine VW.cond (b := x82) (by kernel_rfl) (fun hb => ?_) (fun hb => ?_)
                  · replace h := cond_t h hb; clear hb
                    refine VW.region ?_
                    refine VO.seg T_ok .dp 1 [3, 4] [0] (s' := ⟨[(3, .lf (.ptr 0 0 0 0)), (4, B true)], [bx [.v (.int .i64) (0 : Int), .v .str x76, .v (.int .i64) x77, .v (.int .i64) x78, .v (.int .i64) x79, .v .bool x80, .v (.sl (.int .i64)) x81] 44]⟩) (φ := True ∧ True) (by kernel_rfl) ⟨trivial, trivial⟩ ?_
                    refine VO.nil ?_
                    exact arrive [.ren [3, 4] [0]] (by kernel_rfl) ⟨x76, x77, x78, x79, x80, x81, true, rfl, h⟩
                  · replace h := cond_f h hb; clear hb
                    refine VW.skip ?_
                    exact arrive [.ren [3, 4] [0]] (by kernel_rfl) ⟨x76, x77, x78, x79, x80, x81, false, rfl, h⟩
  · rintro s ⟨x38, x39, x40, x41, x42, x43, x44, rfl, h⟩
    unfold F43_j0 at h
    refine VW.seq ?_
    refine VW.region ?_
    refine VO.seg T_ok .dp 2 [3, 111] [0] (s' := ⟨[(3, .lf (.ptr 0 0 0 0)), (111, B x44)], [bx [.v (.int .i64) (0 : Int), .v .str x38, .v (.int .i64) x39, .v (.int .i64) x40, .v (.int .i64) x41, .v .bool x42, .v (.sl (.int .i64)) x43] 44]⟩) (φ := True ∧ True ∧ True) (by kernel_rfl) ⟨trivial, trivial, trivial⟩ ?_
    refine VO.splitB 111 (b := x44) (by kernel_rfl) (fun hb => ?_) (fun hb => ?_)
    · replace h := cond_t h hb; clear hb
      refine VO.seg T_ok .dp 2 [111, 112, 113] [] (s' := ⟨[(111, B true), (112, .agg [.v (.int .i64) (0 : Int), .v .str x38, .v (.int .i64) x39, .v (.int .i64) x40, .v (.int .i64) x41, .v .bool x42, .v (.sl (.int .i64)) x43]), (113, .agg [.v (.int .i64) (0 : Int), .v .str ByteArray.empty, .v (.int .i64) (0 : Int), .v (.int .i64) (0 : Int), .v (.int .i64) (0 : Int), .v .bool false, .nil])], []⟩) (φ := True ∧ True ∧ True) (by kernel_rfl) ⟨trivial, trivial, trivial⟩ ?_
      refine VO.on (j := 1) (want := true) (d := 111) (b := true) rfl rfl rfl (by kernel_rfl) rfl ?_
      obtain ⟨y45, hy, h⟩ := andO_some h
      refine VO.call false [.t Y40, .t Y40] [] T_ok (d := some 114) (by kernel_rfl) (ok59 N _ _ hy) rfl ?_
      refine VO.seg T_ok .dp 2 [2] [] (s' := ⟨[(2, B y45)], []⟩) (φ := True ∧ True ∧ True) (by kernel_rfl) ⟨trivial, trivial, trivial⟩ ?_
      refine VO.nil ?_
      show VW _ _ _ _ _ _ _
      refine VW.ret ?_
      replace h := Option.some.inj h
      subst h
      exact retR [] (by kernel_rfl) rfl
    · replace h := cond_f h hb; clear hb
      refine VO.seg T_ok .dp 5 [2] [] (s' := ⟨[(2, B false)], []⟩) (φ := True ∧ True ∧ True ∧ True ∧ True ∧ True) (by kernel_rfl) ⟨trivial, trivial, trivial, trivial, trivial, trivial⟩ ?_
      refine VO.nil ?_
      show VW _ _ _ _ _ _ _
      refine VW.ret ?_
      replace h := Option.some.inj h
      subst h
      exact retR [] (by kernel_rfl) rfl

/- loop.example/g00844/impl.PlanOk$1 -/
def F42 (N : Nat) (a0 : (Int × (ByteArray × (Int × (Int × (Int × (Bool × (List Int)))))))) : Option (Bool) :=
  andO (F43 N a0) fun y1 => some (!y1)
theorem ok42 (N : Nat) (a0 : (Int × (ByteArray × (Int × (Int × (Int × (Bool × (List Int)))))))) {r : Bool} (h : F42 N a0 = some r) : Con Go.Proofs.Try.prog 42 [.agg [.v (.int .i64) a0.1, .v .str a0.2.1, .v (.int .i64) a0.2.2.1, .v (.int .i64) a0.2.2.2.1, .v (.int .i64) a0.2.2.2.2.1, .v .bool a0.2.2.2.2.2.1, .v (.sl (.int .i64)) a0.2.2.2.2.2.2]] [.lf (.v .bool r)] := by
  refine ⟨enters_of Go.Proofs.Try.func42 rfl (by decide), HC.intro [.lf (.v .bool)] T_ok Go.Proofs.Try.func42 rfl (Nat.le_of_ble_eq_true rfl) (Nat.le_of_ble_eq_true rfl) fun w0 E0 => ?_⟩
  unfold F42 at h
  show VW _ _ _ _ _ (retQ _ _ _ _) _
  refine VW.seq ?_
  refine VW.region ?_
  refine VO.seg T_ok .dp 2 [1] [0] (s' := ⟨[(1, .lf (.ptr 0 0 0 0))], [bx [.v (.int .i64) a0.1, .v .str a0.2.1, .v (.int .i64) a0.2.2.1, .v (.int .i64) a0.2.2.2.1, .v (.int .i64) a0.2.2.2.2.1, .v .bool a0.2.2.2.2.2.1, .v (.sl (.int .i64)) a0.2.2.2.2.2.2] 44]⟩) (φ := True ∧ True ∧ True) (by kernel_rfl) ⟨trivial, trivial, trivial⟩ ?_
  refine VO.nil ?_
  show VW _ _ _ _ _ _ _
  refine VW.seq ?_
  refine VW.region ?_
  refine VO.seg T_ok .dp 1 [3] [] (s' := ⟨[(3, .agg [.v (.int .i64) a0.1, .v .str a0.2.1, .v (.int .i64) a0.2.2.1, .v (.int .i64) a0.2.2.2.1, .v (.int .i64) a0.2.2.2.2.1, .v .bool a0.2.2.2.2.2.1, .v (.sl (.int .i64)) a0.2.2.2.2.2.2])], []⟩) (φ := True ∧ True) (by kernel_rfl) ⟨trivial, trivial⟩ ?_
  obtain ⟨y1, hy, h⟩ := andO_some h
  refine VO.call false [.t Y40] [] T_ok (d := some 4) (by kernel_rfl) (ok43 N _ hy) rfl ?_
  refine VO.seg T_ok .dp 2 [2] [] (s' := ⟨[(2, B (!y1))], []⟩) (φ := True ∧ True ∧ True) (by kernel_rfl) ⟨trivial, trivial, trivial⟩ ?_
  refine VO.nil ?_
  show VW _ _ _ _ _ _ _
  refine VW.ret ?_
  replace h := Option.some.inj h
  subst h
  exact retR [] (by kernel_rfl) rfl

/- loop.example/g00844/impl.ArityOf -/
def F60_j0 (N : Nat) (x6 : Bool) : Option (Int) :=
  cond x6 (some (1 : Int)) (some (-1 : Int))
def F60_j1 (N : Nat) (a0 : Int) (x5 : Bool) : Option (Int) :=
  cond x5 (some (2 : Int)) (cond (a0 == (1 : Int)) (F60_j0 N (a0 == (1 : Int))) (cond (a0 == (2 : Int)) (F60_j0 N (a0 == (2 : Int))) (cond (a0 == (5 : Int)) (F60_j0 N (a0 == (5 : Int))) (cond (a0 == (6 : Int)) (F60_j0 N (a0 == (6 : Int))) (F60_j0 N (a0 == (7 : Int)))))))
def F60 (N : Nat) (a0 : Int) : Option (Int) :=
  cond (a0 == (0 : Int)) (some (0 : Int)) (cond (a0 == (3 : Int)) (F60_j1 N a0 (a0 == (3 : Int))) (F60_j1 N a0 (a0 == (4 : Int))))
theorem ok60 (N : Nat) (a0 : Int) {r : Int} (h : F60 N a0 = some r) : Con Go.Proofs.Try.prog 60 [I a0] [.lf (.v (.int .i64) r)] := by
  refine ⟨enters_of Go.Proofs.Try.func60 rfl (by decide), HC.intro [.lf (.v (.int .i64))] T_ok Go.Proofs.Try.func60 rfl (Nat.le_of_ble_eq_true rfl) (Nat.le_of_ble_eq_true rfl) fun w0 E0 => ?_⟩
  unfold F60 at h
  show VW _ _ _ _ _ (retQ _ _ _ _) _
  refine VW.seq ?_
  refine VW.region ?_
  refine VO.seg T_ok .dp 1 [0] [] (s' := ⟨[(0, I a0)], []⟩) (φ := True ∧ True) (by kernel_rfl) ⟨trivial, trivial⟩ ?_
  refine VO.nil ?_
  show VW _ _ _ _ _ _ _
  refine VW.seq ?_
  refine VW.seq ?_
  refine VW.region ?_
  refine VO.seg T_ok .dp 1 [3] [] (s' := ⟨[(3, I a0)], []⟩) (φ := True ∧ True) (by kernel_rfl) ⟨trivial, trivial⟩ ?_
  refine VO.nil ?_
  show VW _ _ _ _ _ _ _
  refine VW.block ?_
  refine VW.seq ?_
  refine VW.region ?_
  refine VO.seg T_ok .dp 2 [3, 4] [] (s' := ⟨[(3, I a0), (4, B (a0 == (0 : Int)))], []⟩) (φ := True ∧ True ∧ True) (by kernel_rfl) ⟨trivial, trivial, trivial⟩ ?_
  refine VO.nil ?_
  show VW _ _ _ _ _ _ _
  refine VW.cond (b := (a0 == (0 : Int))) (by kernel_rfl) (fun hb => ?_) (fun hb => ?_)
  · replace h := cond_t h hb; clear hb
    refine VW.seq ?_
    refine VW.region ?_
    refine VO.seg T_ok .dp 1 [2] [] (s' := ⟨[(2, I (0 : Int))], []⟩) (φ := True ∧ True) (by kernel_rfl) ⟨trivial, trivial⟩ ?_
    refine VO.nil ?_
    show VW _ _ _ _ _ _ _
    refine VW.ret ?_
    replace h := Option.some.inj h
    subst h
    exact retR [] (by kernel_rfl) rfl
  · replace h := cond_f h hb; clear hb
    refine VW.join (fun s => ∃ (x5 : Bool), s = ⟨[(3, I a0), (6, B x5)], []⟩ ∧ F60_j1 N a0 x5 = some r) ?_ ?_
    · refine VW.seq ?_
      refine VW.region ?_
      refine VO.seg T_ok .dp 2 [3, 6] [] (s' := ⟨[(3, I a0), (6, B (a0 == (3 : Int)))], []⟩) (φ := True ∧ True ∧ True) (by kernel_rfl) ⟨trivial, trivial, trivial⟩ ?_
      refine VO.nil ?_
      show VW _ _ _ _ _ _ _
      refine VW.cond (b := (a0 == (3 : Int))) (by kernel_rfl) (fun hb => ?_) (fun hb => ?_)
      · replace h := cond_t h hb; clear hb
        refine VW.skip ?_
        exact arrive [.ren [3, 6] []] (by kernel_rfl) ⟨(a0 == (3 : Int)), rfl, h⟩
      · replace h := cond_f h hb; clear hb
        refine VW.region ?_
        refine VO.seg T_ok .dp 2 [3, 6] [] (s' := ⟨[(3, I a0), (6, B (a0 == (4 : Int)))], []⟩) (φ := True ∧ True ∧ True) (by kernel_rfl) ⟨trivial, trivial, trivial⟩ ?_
        refine VO.nil ?_
        exact arrive [.ren [3, 6] []] (by kernel_rfl) ⟨(a0 == (4 : Int)), rfl, h⟩
    · rintro s ⟨x5, rfl, h⟩
      unfold F60_j1 at h
      refine VW.cond (b := x5) (by kernel_rfl) (fun hb => ?_) (fun hb => ?_)
      · replace h := cond_t h hb; clear hb
        refine VW.seq ?_
        refine VW.region ?_
        refine VO.seg T_ok .dp 1 [2] [] (s' := ⟨[(2, I (2 : Int))], []⟩) (φ := True ∧ True) (by kernel_rfl) ⟨trivial, trivial⟩ ?_
        refine VO.nil ?_
        show VW _ _ _ _ _ _ _
        refine VW.ret ?_
        replace h := Option.some.inj h
        subst h
        exact retR [] (by kernel_rfl) rfl
      · replace h := cond_f h hb; clear hb
        refine VW.join (fun s => ∃ (x6 : Bool), s = ⟨[(9, B x6)], []⟩ ∧ F60_j0 N x6 = some r) ?_ ?_
        · refine VW.seq ?_
          refine VW.region ?_
          refine VO.seg T_ok .dp 2 [3, 9] [] (s' := ⟨[(3, I a0), (9, B (a0 == (1 : Int)))], []⟩) (φ := True ∧ True ∧ True) (by kernel_rfl) ⟨trivial, trivial, trivial⟩ ?_
          refine VO.nil ?_
          show VW _ _ _ _ _ _ _
          refine VW.cond (b := (a0 == (1 : Int))) (by kernel_rfl) (fun hb => ?_) (fun hb => ?_)
          · replace h := cond_t h hb; clear hb
            refine VW.skip ?_
            exact arrive [.ren [9] []] (by kernel_rfl) ⟨(a0 == (1 : Int)), rfl, h⟩
          · replace h := cond_f h hb; clear hb
            refine VW.seq ?_
            refine VW.region ?_
            refine VO.seg T_ok .dp 2 [3, 9] [] (s' := ⟨[(3, I a0), (9, B (a0 == (2 : Int)))], []⟩) (φ := True ∧ True ∧ True) (by kernel_rfl) ⟨trivial, trivial, trivial⟩ ?_
            refine VO.nil ?_
            show VW _ _ _ _ _ _ _
            refine VW.cond (b := (a0 == (2 : Int))) (by kernel_rfl) (fun hb => ?_) (fun hb => ?_)
            · replace h := cond_t h hb; clear hb
              refine VW.skip ?_
              exact arrive [.ren [9] []] (by kernel_rfl) ⟨(a0 == (2 : Int)), rfl, h⟩
            · replace h := cond_f h hb; clear hb
              refine VW.seq ?_
              refine VW.region ?_
              refine VO.seg T_ok .dp 2 [3, 9] [] (s' := ⟨[(3, I a0), (9, B (a0 == (5 : Int)))], []⟩) (φ := True ∧ True ∧ True) (by kernel_rfl) ⟨trivial, trivial, trivial⟩ ?_
              refine VO.nil ?_
              show VW _ _ _ _ _ _ _
              refine VW.cond (b := (a0 == (5 : Int))) (by kernel_rfl) (fun hb => ?_) (fun hb => ?_)
              · replace h := cond_t h hb; clear hb
                refine VW.skip ?_
                exact arrive [.ren [9] []] (by kernel_rfl) ⟨(a0 == (5 : Int)), rfl, h⟩
              · replace h := cond_f h hb; clear hb
                refine VW.seq ?_
                refine VW.region ?_
                refine VO.seg T_ok .dp 2 [3, 9] [] (s' := ⟨[(3, I a0), (9, B (a0 == (6 : Int)))], []⟩) (φ := True ∧ True ∧ True) (by kernel_rfl) ⟨trivial, trivial, trivial⟩ ?_
                refine VO.nil ?_
                show VW _ _ _ _ _ _ _
                refine VW.cond (b := (a0 == (6 : Int))) (by kernel_rfl) (fun hb => ?_) (fun hb => ?_)
                · replace h := cond_t h hb; clear hb
                  refine VW.skip ?_
                  exact arrive [.ren [9] []] (by kernel_rfl) ⟨(a0 == (6 : Int)), rfl, h⟩
                · replace h := cond_f h hb; clear hb
                  refine VW.region ?_
                  refine VO.seg T_ok .dp 2 [9] [] (s' := ⟨[(9, B (a0 == (7 : Int)))], []⟩) (φ := True ∧ True ∧ True) (by kernel_rfl) ⟨trivial, trivial, trivial⟩ ?_
                  refine VO.nil ?_
                  exact arrive [.ren [9] []] (by kernel_rfl) ⟨(a0 == (7 : Int)), rfl, h⟩
        · rintro s ⟨x6, rfl, h⟩
          unfold F60_j0 at h
          refine VW.cond (b := x6) (by kernel_rfl) (fun hb => ?_) (fun hb => ?_)
          · replace h := cond_t h hb; clear hb
            refine VW.seq ?_
            refine VW.region ?_
            refine VO.seg T_ok .dp 1 [2] [] (s' := ⟨[(2, I (1 : Int))], []⟩) (φ := True ∧ True) (by kernel_rfl) ⟨trivial, trivial⟩ ?_
            refine VO.nil ?_
            show VW _ _ _ _ _ _ _
            refine VW.ret ?_
            replace h := Option.some.inj h
            subst h
            exact retR [] (by kernel_rfl) rfl
          · replace h := cond_f h hb; clear hb
            refine VW.skip ?_
            show VW _ _ _ _ _ _ _
            refine VW.seq ?_
            refine VW.region ?_
            refine VO.seg T_ok .dp 1 [2] [] (s' := ⟨[(2, I (-1 : Int))], []⟩) (φ := True ∧ True) (by kernel_rfl) ⟨trivial, trivial⟩ ?_
            refine VO.nil ?_
            show VW _ _ _ _ _ _ _
            refine VW.ret ?_
            replace h := Option.some.inj h
            subst h
            exact retR [] (by kernel_rfl) rfl

/- loop.example/g00844/impl.end -/
def F44_j0 (N : Nat) (x13 : Int) : Option (Int) :=
  some x13
def F44_l0_b (N : Nat) (a0 : (List (Int × (ByteArray × (Int × (Int × (Int × (Bool × (List Int))))))))) (a2 : Int) (self : (List (Int × (ByteArray × (Int × (Int × (Int × (Bool × (List Int)))))))) → Int → Int → Option (Int)) (y16 : Int) (nx24 : Int → Int → Option (Int)) (x20 : Int) (x21 : Int) : Option (Int) :=
  cond (decide (x21 < y16)) (andO (self a0 x20 (IntKind.i64.wrap (a2 + (1 : Int)))) fun y26 => cond (decide (y26 < (0 : Int))) (some (-1 : Int)) (nx24 y26 (IntKind.i64.wrap (x21 + (1 : Int))))) (F44_j0 N x20)
def F44_l0 (N : Nat) (a0 : (List (Int × (ByteArray × (Int × (Int × (Int × (Bool × (List Int))))))))) (a2 : Int) (self : (List (Int × (ByteArray × (Int × (Int × (Int × (Bool × (List Int)))))))) → Int → Int → Option (Int)) (y16 : Int) : Nat → Int → Int → Option (Int) := loopF (F44_l0_b N a0 a2 self y16) (fun _ _ => none)
theorem F44_l0_s (N : Nat) (a0 : (List (Int × (ByteArray × (Int × (Int × (Int × (Bool × (List Int))))))))) (a2 : Int) (self : (List (Int × (ByteArray × (Int × (Int × (Int × (Bool × (List Int)))))))) → Int → Int → Option (Int)) (y16 : Int) {k : Nat} (hk : 0 < k) (x20 : Int) (x21 : Int) : F44_l0 N a0 a2 self y16 k x20 x21 = F44_l0_b N a0 a2 self y16 (F44_l0 N a0 a2 self y16 (k - 1)) x20 x21 := by
  cases k with
  | zero => exact absurd hk (Nat.lt_irrefl 0)
  | succ m => rfl
def F44_b (N : Nat) (self : (List (Int × (ByteArray × (Int × (Int × (Int × (Bool × (List Int)))))))) → Int → Int → Option (Int)) (a0 : (List (Int × (ByteArray × (Int × (Int × (Int × (Bool × (List Int))))))))) (a1 : Int) (a2 : Int) : Option (Int) :=
  cond (decide (a1 ≥ (a0.length : Int))) (some (-1 : Int)) (cond (decide (a2 > (10 : Int))) (some (-1 : Int)) (gd (InR a1 a0.length) (andO (F60 N ((a0.getD a1.toNat (Ty.dflt Y40)).1)) fun y16 => F44_l0 N a0 a2 self y16 N (IntKind.i64.wrap (a1 + (1 : Int))) (0 : Int))))
theorem ok44_b (N : Nat) (self : (List (Int × (ByteArray × (Int × (Int × (Int × (Bool × (List Int)))))))) → Int → Int → Option (Int)) (ih : ∀ (a0 : (List (Int × (ByteArray × (Int × (Int × (Int × (Bool × (List Int))))))))) (a1 : Int) (a2 : Int) (r : Int), self a0 a1 a2 = some r → Con Go.Proofs.Try.prog 44 [.lf (.v (.sl Y40) a0), I a1, I a2] [.lf (.v (.int .i64) r)]) (a0 : (List (Int × (ByteArray × (Int × (Int × (Int × (Bool × (List Int))))))))) (a1 : Int) (a2 : Int) {r : Int} (h : F44_b N self a0 a1 a2 = some r) : Con Go.Proofs.Try.prog 44 [.lf (.v (.sl Y40) a0), I a1, I a2] [.lf (.v (.int .i64) r)] := by
  refine ⟨enters_of Go.Proofs.Try.func44 rfl (by decide), HC.intro [.lf (.v (.int .i64))] T_ok Go.Proofs.Try.func44 rfl (Nat.le_of_ble_eq_true rfl) (Nat.le_of_ble_eq_true rfl) fun w0 E0 => ?_⟩
  unfold F44_b at h
  show VW _ _ _ _ _ (retQ _ _ _ _) _
  refine VW.seq ?_
  refine VW.region ?_
  refine VO.seg T_ok .dp 1 [0, 1, 2] [] (s' := ⟨[(0, .lf (.v (.sl Y40) a0)), (1, I a1), (2, I a2)], []⟩) (φ := True ∧ True) (by kernel_rfl) ⟨trivial, trivial⟩ ?_
  refine VO.nil ?_
  show VW _ _ _ _ _ _ _
  refine VW.seq ?_
  refine VW.seq ?_
  refine VW.region ?_
  refine VO.seg T_ok .dp 5 [0, 1, 2, 12] [] (s' := ⟨[(0, .lf (.v (.sl Y40) a0)), (1, I a1), (2, I a2), (12, B (decide (a1 ≥ (a0.length : Int))))], []⟩) (φ := True ∧ True ∧ True ∧ True ∧ True ∧ True) (by kernel_rfl) ⟨trivial, trivial, trivial, trivial, trivial, trivial⟩ ?_
  refine VO.splitB 12 (b := (decide (a1 ≥ (a0.length : Int)))) (by kernel_rfl) (fun hb => ?_) (fun hb => ?_)
  · replace h := cond_t h hb; clear hb
    refine VO.seg T_ok .dp 3 [0, 1, 2, 15] [] (s' := ⟨[(0, .lf (.v (.sl Y40) a0)), (1, I a1), (2, I a2), (15, B true)], []⟩) (φ := True ∧ True ∧ True ∧ True) (by kernel_rfl) ⟨trivial, trivial, trivial, trivial⟩ ?_
    refine VO.nil ?_
    show VW _ _ _ _ _ _ _
    refine VW.cond (b := true) (by kernel_rfl) (fun _ => ?_) (fun h' => nomatch h')
    refine VW.seq ?_
    refine VW.region ?_
    refine VO.seg T_ok .dp 1 [6] [] (s' := ⟨[(6, I (-1 : Int))], []⟩) (φ := True ∧ True) (by kernel_rfl) ⟨trivial, trivial⟩ ?_
    refine VO.nil ?_
    show VW _ _ _ _ _ _ _
    refine VW.ret ?_
    replace h := Option.some.inj h
    subst h
    exact retR [] (by kernel_rfl) rfl
  · replace h := cond_f h hb; clear hb
    refine VO.seg T_ok .dp 3 [0, 1, 2, 15] [] (s' := ⟨[(0, .lf (.v (.sl Y40) a0)), (1, I a1), (2, I a2), (15, B (decide (a2 > (10 : Int))))], []⟩) (φ := True ∧ True ∧ True ∧ True) (by kernel_rfl) ⟨trivial, trivial, trivial, trivial⟩ ?_
    refine VO.nil ?_
    show VW _ _ _ _ _ _ _
    refine VW.cond (b := (decide (a2 > (10 : Int)))) (by kernel_rfl) (fun hb => ?_) (fun hb => ?_)
    · replace h := cond_t h hb; clear hb
      refine VW.seq ?_
      refine VW.region ?_
      refine VO.seg T_ok .dp 1 [6] [] (s' := ⟨[(6, I (-1 : Int))], []⟩) (φ := True ∧ True) (by kernel_rfl) ⟨trivial, trivial⟩ ?_
      refine VO.nil ?_
      show VW _ _ _ _ _ _ _
      refine VW.ret ?_
      replace h := Option.some.inj h
      subst h
      exact retR [] (by kernel_rfl) rfl
    · replace h := cond_f h hb; clear hb
      refine VW.skip ?_
      show VW _ _ _ _ _ _ _
      refine VW.seq ?_
      refine VW.region ?_
      refine VO.seg T_ok .dp 3 [0, 1, 2, 7] [] (s' := ⟨[(0, .lf (.v (.sl Y40) a0)), (1, I a1), (2, I a2), (7, I (IntKind.i64.wrap (a1 + (1 : Int))))], []⟩) (φ := True ∧ True ∧ True ∧ True) (by kernel_rfl) ⟨trivial, trivial, trivial, trivial⟩ ?_
      refine VO.nil ?_
      show VW _ _ _ _ _ _ _
      refine VW.join (fun s => ∃ (x13 : Int), s = ⟨[(7, I x13)], []⟩ ∧ F44_j0 N x13 = some r) ?_ ?_
      · refine VW.seq ?_
        refine VW.region ?_
        obtain ⟨g15, h⟩ := gd_some h
        refine VO.seg T_ok .dp 5 [0, 2, 7, 22] [] (s' := ⟨[(0, .lf (.v (.sl Y40) a0)), (2, I a2), (7, I (IntKind.i64.wrap (a1 + (1 : Int)))), (22, I ((a0.getD a1.toNat (Ty.dflt Y40)).1))], []⟩) (φ := True ∧ True ∧ (InR a1 a0.length) ∧ True ∧ True ∧ True) (by kernel_rfl) ⟨trivial, trivial, g15, trivial, trivial, trivial⟩ ?_
        obtain ⟨y16, hy, h⟩ := andO_some h
        refine VO.call false [.t (.int .i64)] [] T_ok (d := some 23) (by kernel_rfl) (ok60 N _ hy) rfl ?_
        refine VO.seg T_ok .dp 1 [0, 2, 7, 23, 24] [] (s' := ⟨[(0, .lf (.v (.sl Y40) a0)), (2, I a2), (7, I (IntKind.i64.wrap (a1 + (1 : Int)))), (23, I y16), (24, I (0 : Int))], []⟩) (φ := True ∧ True) (by kernel_rfl) ⟨trivial, trivial⟩ ?_
        refine VO.nil ?_
        show VW _ _ _ _ _ _ _
        refine VW.block ?_
        refine VW.loopL (fun k s => ∃ (x20 : Int) (x21 : Int), s = ⟨[(0, .lf (.v (.sl Y40) a0)), (2, I a2), (7, I x20), (23, I y16), (24, I x21)], []⟩ ∧ F44_l0 N a0 a2 self y16 k x20 x21 = some r) N [.ren [0, 2, 7, 23, 24] []] (by kernel_rfl) ⟨(IntKind.i64.wrap (a1 + (1 : Int))), (0 : Int), rfl, h⟩ ?_
        rintro k24 s ⟨x20, x21, rfl, h⟩
        cases k24 with
        | zero => exact nomatch (show (none : Option (Int)) = some r from h)
        | succ k24 =>
          replace h : F44_l0_b N a0 a2 self y16 (F44_l0 N a0 a2 self y16 k24) x20 x21 = some r := h
          unfold F44_l0_b at h
          refine VW.seq ?_
          refine VW.region ?_
          refine VO.seg T_ok .dp 1 [0, 2, 7, 23, 24, 25] [] (s' := ⟨[(0, .lf (.v (.sl Y40) a0)), (2, I a2), (7, I x20), (23, I y16), (24, I x21), (25, B (decide (x21 < y16)))], []⟩) (φ := True ∧ True) (by kernel_rfl) ⟨trivial, trivial⟩ ?_
          refine VO.nil ?_
          show VW _ _ _ _ _ _ _
          refine VW.seq ?_
          refine VW.cond (b := (decide (x21 < y16))) (by kernel_rfl) (fun hb => ?_) (fun hb => ?_)
          · replace h := cond_t h hb; clear hb
            refine VW.skip ?_
            show VW _ _ _ _ _ _ _
            refine VW.seq ?_
            refine VW.block ?_
            refine VW.seq ?_
            refine VW.region ?_
            refine VO.seg T_ok .dp 4 [0, 2, 23, 24, 26, 27, 29] [] (s' := ⟨[(0, .lf (.v (.sl Y40) a0)), (2, I a2), (23, I y16), (24, I x21), (26, .lf (.v (.sl Y40) a0)), (27, I x20), (29, I (IntKind.i64.wrap (a2 + (1 : Int))))], []⟩) (φ := True ∧ True ∧ True ∧ True ∧ True) (by kernel_rfl) ⟨trivial, trivial, trivial, trivial, trivial⟩ ?_
            obtain ⟨y26, hy, h⟩ := andO_some h
            refine VO.call false [.t (.sl Y40), .t (.int .i64), .t (.int .i64)] [] T_ok (d := some 30) (by kernel_rfl) (ih _ _ _ _ hy) rfl ?_
            refine VO.seg T_ok .dp 1 [0, 2, 7, 23, 24] [] (s' := ⟨[(0, .lf (.v (.sl Y40) a0)), (2, I a2), (7, I y26), (23, I y16), (24, I x21)], []⟩) (φ := True ∧ True) (by kernel_rfl) ⟨trivial, trivial⟩ ?_
            refine VO.nil ?_
            show VW _ _ _ _ _ _ _
            refine VW.seq ?_
            refine VW.region ?_
            refine VO.seg T_ok .dp 2 [0, 2, 7, 23, 24, 32] [] (s' := ⟨[(0, .lf (.v (.sl Y40) a0)), (2, I a2), (7, I y26), (23, I y16), (24, I x21), (32, B (decide (y26 < (0 : Int))))], []⟩) (φ := True ∧ True ∧ True) (by kernel_rfl) ⟨trivial, trivial, trivial⟩ ?_
            refine VO.nil ?_
            show VW _ _ _ _ _ _ _
            refine VW.cond (b := (decide (y26 < (0 : Int)))) (by kernel_rfl) (fun hb => ?_) (fun hb => ?_)
            · replace h := cond_t h hb; clear hb
              refine VW.seq ?_
              refine VW.region ?_
              refine VO.seg T_ok .dp 1 [6] [] (s' := ⟨[(6, I (-1 : Int))], []⟩) (φ := True ∧ True) (by kernel_rfl) ⟨trivial, trivial⟩ ?_
              refine VO.nil ?_
              show VW _ _ _ _ _ _ _
              refine VW.ret ?_
              replace h := Option.some.inj h
              subst h
              exact retR [] (by kernel_rfl) rfl
            · replace h := cond_f h hb; clear hb
              refine VW.skip ?_
              show VW _ _ _ _ _ _ _
              refine VW.region ?_
              refine VO.seg T_ok .dp 2 [0, 2, 7, 23, 24] [] (s' := ⟨[(0, .lf (.v (.sl Y40) a0)), (2, I a2), (7, I y26), (23, I y16), (24, I (IntKind.i64.wrap (x21 + (1 : Int))))], []⟩) (φ := True ∧ True ∧ True) (by kernel_rfl) ⟨trivial, trivial, trivial⟩ ?_
              refine VO.nil ?_
              exact around [.ren [0, 2, 7, 23, 24] []] (by kernel_rfl) ⟨y26, (IntKind.i64.wrap (x21 + (1 : Int))), rfl, h⟩
          · replace h := cond_f h hb; clear hb
            refine VW.exit ?_
            exact arrive [.ren [7] []] (by kernel_rfl) ⟨x20, rfl, h⟩
      · rintro s ⟨x13, rfl, h⟩
        unfold F44_j0 at h
        refine VW.seq ?_
        refine VW.region ?_
        refine VO.seg T_ok .dp 2 [6] [] (s' := ⟨[(6, I x13)], []⟩) (φ := True ∧ True ∧ True) (by kernel_rfl) ⟨trivial, trivial, trivial⟩ ?_
        refine VO.nil ?_
        show VW _ _ _ _ _ _ _
        refine VW.ret ?_
        replace h := Option.some.inj h
        subst h
        exact retR [] (by kernel_rfl) rfl
def F44_r (N : Nat) : Nat → (List (Int × (ByteArray × (Int × (Int × (Int × (Bool × (List Int)))))))) → Int → Int → Option (Int) := loopF (F44_b N) (fun _ _ _ => none)
theorem F44_s (N : Nat) {k : Nat} (hk : 0 < k) (a0 : (List (Int × (ByteArray × (Int × (Int × (Int × (Bool × (List Int))))))))) (a1 : Int) (a2 : Int) : F44_r N k a0 a1 a2 = F44_b N (F44_r N (k - 1)) a0 a1 a2 := by
  cases k with
  | zero => exact absurd hk (Nat.lt_irrefl 0)
  | succ m => rfl
def F44 (N : Nat) : (List (Int × (ByteArray × (Int × (Int × (Int × (Bool × (List Int)))))))) → Int → Int → Option (Int) := F44_r N N
theorem ok44_k (N : Nat) : ∀ (k : Nat) (a0 : (List (Int × (ByteArray × (Int × (Int × (Int × (Bool × (List Int))))))))) (a1 : Int) (a2 : Int) (r : Int), loopF (F44_b N) (fun _ _ _ => none) k a0 a1 a2 = some r → Con Go.Proofs.Try.prog 44 [.lf (.v (.sl Y40) a0), I a1, I a2] [.lf (.v (.int .i64) r)]
  | 0, a0, a1, a2, r, h => nomatch (show (none : Option (Int)) = some r from h)
  | k + 1, a0, a1, a2, r, h => ok44_b N _ (ok44_k N k) a0 a1 a2 h
theorem ok44 (N : Nat) (a0 : (List (Int × (ByteArray × (Int × (Int × (Int × (Bool × (List Int))))))))) (a1 : Int) (a2 : Int) {r : Int} (h : F44 N a0 a1 a2 = some r) : Con Go.Proofs.Try.prog 44 [.lf (.v (.sl Y40) a0), I a1, I a2] [.lf (.v (.int .i64) r)] := ok44_k N N a0 a1 a2 r h

/- loop.example/g00844/impl.PlanOk -/
def F25 (N : Nat) (a0 : (List (Int × (ByteArray × (Int × (Int × (Int × (Bool × (List Int))))))))) : Option (Bool) :=
  andO (F40 N (a0.length : Int) (1 : Int) (40 : Int)) fun y3 => cond (!y3) (some false) (andO (F41 N a0 (fun z0 => F42 N z0)) fun y4 => cond y4 (some false) (andO (F44 N a0 (0 : Int) (1 : Int)) fun y5 => some (y5 == (a0.length : Int))))
theorem ok25 (N : Nat) (a0 : (List (Int × (ByteArray × (Int × (Int × (Int × (Bool × (List Int))))))))) {r : Bool} (h : F25 N a0 = some r) : Con Go.Proofs.Try.prog 25 [.lf (.v (.sl Y40) a0)] [.lf (.v .bool r)] := by
  refine ⟨enters_of Go.Proofs.Try.func25 rfl (by decide), HC.intro [.lf (.v .bool)] T_ok Go.Proofs.Try.func25 rfl (Nat.le_of_ble_eq_true rfl) (Nat.le_of_ble_eq_true rfl) fun w0 E0 => ?_⟩
  unfold F25 at h
  show VW _ _ _ _ _ (retQ _ _ _ _) _
  refine VW.seq ?_
  refine VW.region ?_
  refine VO.seg T_ok .dp 1 [0] [] (s' := ⟨[(0, .lf (.v (.sl Y40) a0))], []⟩) (φ := True ∧ True) (by kernel_rfl) ⟨trivial, trivial⟩ ?_
  refine VO.nil ?_
  show VW _ _ _ _ _ _ _
  refine VW.seq ?_
  refine VW.seq ?_
  refine VW.region ?_
  refine VO.seg T_ok .dp 2 [0, 4] [] (s' := ⟨[(0, .lf (.v (.sl Y40) a0)), (4, I (a0.length : Int))], []⟩) (φ := True ∧ True ∧ True) (by kernel_rfl) ⟨trivial, trivial, trivial⟩ ?_
  obtain ⟨y3, hy, h⟩ := andO_some h
  refine VO.call false [.t (.int .i64), .t (.int .i64), .t (.int .i64)] [] T_ok (d := some 5) (by kernel_rfl) (ok40 N _ _ _ hy) rfl ?_
  refine VO.seg T_ok .dp 2 [0, 7] [] (s' := ⟨[(0, .lf (.v (.sl Y40) a0)), (7, B (!y3))], []⟩) (φ := True ∧ True ∧ True) (by kernel_rfl) ⟨trivial, trivial, trivial⟩ ?_
  refine VO.splitB 7 (b := (!y3)) (by kernel_rfl) (fun hb => ?_) (fun hb => ?_)
  · replace h := cond_t h hb; clear hb
    refine VO.seg T_ok .dp 3 [0, 10] [] (s' := ⟨[(0, .lf (.v (.sl Y40) a0)), (10, B true)], []⟩) (φ := True ∧ True ∧ True ∧ True) (by kernel_rfl) ⟨trivial, trivial, trivial, trivial⟩ ?_
    refine VO.nil ?_
    show VW _ _ _ _ _ _ _
    refine VW.cond (b := true) (by kernel_rfl) (fun _ => ?_) (fun h' => nomatch h')
    refine VW.seq ?_
    refine VW.region ?_
    refine VO.seg T_ok .dp 1 [2] [] (s' := ⟨[(2, B false)], []⟩) (φ := True ∧ True) (by kernel_rfl) ⟨trivial, trivial⟩ ?_
    refine VO.nil ?_
    show VW _ _ _ _ _ _ _
    refine VW.ret ?_
    replace h := Option.some.inj h
    subst h
    exact retR [] (by kernel_rfl) rfl
  · replace h := cond_f h hb; clear hb
    refine VO.seg T_ok .dp 1 [0, 7, 8] [] (s' := ⟨[(0, .lf (.v (.sl Y40) a0)), (7, B false), (8, .lf (.v (.sl Y40) a0))], []⟩) (φ := True ∧ True) (by kernel_rfl) ⟨trivial, trivial⟩ ?_
    refine VO.on (j := 4) (want := false) (d := 7) (b := false) rfl rfl rfl (by kernel_rfl) rfl ?_
    obtain ⟨y4, hy, h⟩ := andO_some h
    refine VO.call false [.t (.sl Y40), .clo []] [] T_ok (d := some 9) (by kernel_rfl) (ok41 N _ 42  (fun z0 => F42 N z0 ) (fun z0 _ hz => ok42 N z0 hz) hy) rfl ?_
    refine VO.seg T_ok .dp 1 [0, 10] [] (s' := ⟨[(0, .lf (.v (.sl Y40) a0)), (10, B y4)], []⟩) (φ := True ∧ True) (by kernel_rfl) ⟨trivial, trivial⟩ ?_
    refine VO.nil ?_
    show VW _ _ _ _ _ _ _
    refine VW.cond (b := y4) (by kernel_rfl) (fun hb => ?_) (fun hb => ?_)
    · replace h := cond_t h hb; clear hb
      refine VW.seq ?_
      refine VW.region ?_
      refine VO.seg T_ok .dp 1 [2] [] (s' := ⟨[(2, B false)], []⟩) (φ := True ∧ True) (by kernel_rfl) ⟨trivial, trivial⟩ ?_
      refine VO.nil ?_
      show VW _ _ _ _ _ _ _
      refine VW.ret ?_
      replace h := Option.some.inj h
      subst h
      exact retR [] (by kernel_rfl) rfl
    · replace h := cond_f h hb; clear hb
      refine VW.skip ?_
      show VW _ _ _ _ _ _ _
      refine VW.seq ?_
      refine VW.region ?_
      refine VO.seg T_ok .dp 1 [0, 11] [] (s' := ⟨[(0, .lf (.v (.sl Y40) a0)), (11, .lf (.v (.sl Y40) a0))], []⟩) (φ := True ∧ True) (by kernel_rfl) ⟨trivial, trivial⟩ ?_
      obtain ⟨y5, hy, h⟩ := andO_some h
      refine VO.call false [.t (.sl Y40), .t (.int .i64), .t (.int .i64)] [] T_ok (d := some 12) (by kernel_rfl) (ok44 N _ _ _ hy) rfl ?_
      refine VO.seg T_ok .dp 4 [2] [] (s' := ⟨[(2, B (y5 == (a0.length : Int)))], []⟩) (φ := True ∧ True ∧ True ∧ True ∧ True) (by kernel_rfl) ⟨trivial, trivial, trivial, trivial, trivial⟩ ?_
      refine VO.nil ?_
      show VW _ _ _ _ _ _ _
      refine VW.ret ?_
      replace h := Option.some.inj h
      subst h
      exact retR [] (by kernel_rfl) rfl

/- slices.Clone[[]int,int] -/
def F45 (N : Nat) (a0 : (List Int)) : Option ((List Int)) :=
  gd (a0.length ≤ lim (.int .i64)) (some a0)
theorem ok45 (N : Nat) (a0 : (List Int)) {r : (List Int)} (h : F45 N a0 = some r) : Con Go.Proofs.Try.prog 45 [.lf (.v (.sl (.int .i64)) a0)] [.lf (.own (.int .i64) r .dp)] := by
  refine ⟨enters_of Go.Proofs.Try.func45 rfl (by decide), HC.intro [.lf (.own (.int .i64) .dp)] T_ok Go.Proofs.Try.func45 rfl (Nat.le_of_ble_eq_true rfl) (Nat.le_of_ble_eq_true rfl) fun w0 E0 => ?_⟩
  unfold F45 at h
  show VW _ _ _ _ _ (retQ _ _ _ _) _
  refine VW.seq ?_
  refine VW.region ?_
  refine VO.seg T_ok .dp 1 [0] [] (s' := ⟨[(0, .lf (.v (.sl (.int .i64)) a0))], []⟩) (φ := True ∧ True) (by kernel_rfl) ⟨trivial, trivial⟩ ?_
  refine VO.nil ?_
  show VW _ _ _ _ _ _ _
  refine VW.seq ?_
  refine VW.seq ?_
  refine VW.region ?_
  refine VO.seg T_ok .dp 1 [0, 3] [] (s' := ⟨[(0, .lf (.v (.sl (.int .i64)) a0)), (3, .lf (.v (.sl (.int .i64)) a0))], []⟩) (φ := True ∧ True) (by kernel_rfl) ⟨trivial, trivial⟩ ?_
  refine VO.isNil (d := 4) (e := (.int .i64)) (xs := a0) T_ok rfl rfl rfl rfl (by kernel_rfl) (by kernel_rfl) (fun hx => ?_) ?_
  · replace h : some ([]) = some r := by
      subst hx; first | exact h | exact (gd_some h).2
    refine VO.seg T_ok .dp 0 [0, 4] [] (s' := ⟨[(0, .lf (.v (.sl (.int .i64)) a0)), (4, B true)], []⟩) (φ := True) (by kernel_rfl) trivial ?_
    refine VO.nil ?_
    show VW _ _ _ _ _ _ _
    refine VW.cond (b := true) (by kernel_rfl) (fun _ => ?_) (fun h' => nomatch h')
    refine VW.seq ?_
    refine VW.region ?_
    refine VO.seg T_ok .dp 1 [2] [] (s' := ⟨[(2, .lf (.nil))], []⟩) (φ := True ∧ True) (by kernel_rfl) ⟨trivial, trivial⟩ ?_
    refine VO.nil ?_
    show VW _ _ _ _ _ _ _
    refine VW.ret ?_
    replace h := Option.some.inj h
    subst h
    exact retR [none] (by kernel_rfl) rfl
  · refine VO.seg T_ok .dp 0 [0, 4] [] (s' := ⟨[(0, .lf (.v (.sl (.int .i64)) a0)), (4, B false)], []⟩) (φ := True) (by kernel_rfl) trivial ?_
    refine VO.nil ?_
    show VW _ _ _ _ _ _ _
    refine VW.cond (b := false) (by kernel_rfl) (fun h' => nomatch h') (fun _ => ?_)
    refine VW.skip ?_
    show VW _ _ _ _ _ _ _
    refine VW.seq ?_
    refine VW.region ?_
    obtain ⟨g1, h⟩ := gd_some h
    refine VO.seg T_ok .dp 4 [2] [0] (s' := ⟨[(2, .lf (.hd 0 0 none))], [ar 0 (.int .i64) a0 .dp]⟩) (φ := True ∧ True ∧ (a0.length ≤ lim (.int .i64)) ∧ True ∧ True) (by kernel_rfl) ⟨trivial, trivial, g1, trivial, trivial⟩ ?_
    refine VO.nil ?_
    show VW _ _ _ _ _ _ _
    refine VW.ret ?_
    replace h := Option.some.inj h
    subst h
    exact retR [some 0] (by kernel_rfl) rfl

/- loop.example/g00844/impl.own -/
def F26_j0 (N : Nat) (x24 : (List (Int × (ByteArray × (Int × (Int × (Int × (Bool × (List Int))))))))) : Option ((List (Int × (ByteArray × (Int × (Int × (Int × (Bool × (List Int))))))))) :=
  some x24
def F26_l0_b (N : Nat) (a0 : (List (Int × (ByteArray × (Int × (Int × (Int × (Bool × (List Int))))))))) (nx42 : (List (Int × (ByteArray × (Int × (Int × (Int × (Bool × (List Int)))))))) → Int → Int → Option ((List (Int × (ByteArray × (Int × (Int × (Int × (Bool × (List Int)))))))))) (x33 : (List (Int × (ByteArray × (Int × (Int × (Int × (Bool × (List Int))))))))) (x34 : Int) (x35 : Int) : Option ((List (Int × (ByteArray × (Int × (Int × (Int × (Bool × (List Int))))))))) :=
  cond (decide (x35 < x34)) (gd (InR x35 a0.length) (andO (F45 N ((a0.getD x35.toNat (Ty.dflt Y40)).2.2.2.2.2.2)) fun y47 => gd (x33.length + ([((a0.getD x35.toNat (Ty.dflt Y40)).1, ((a0.getD x35.toNat (Ty.dflt Y40)).2.1, ((a0.getD x35.toNat (Ty.dflt Y40)).2.2.1, ((a0.getD x35.toNat (Ty.dflt Y40)).2.2.2.1, ((a0.getD x35.toNat (Ty.dflt Y40)).2.2.2.2.1, ((a0.getD x35.toNat (Ty.dflt Y40)).2.2.2.2.2.1, y47))))))]).length ≤ lim Y40) (nx42 (x33 ++ ([((a0.getD x35.toNat (Ty.dflt Y40)).1, ((a0.getD x35.toNat (Ty.dflt Y40)).2.1, ((a0.getD x35.toNat (Ty.dflt Y40)).2.2.1, ((a0.getD x35.toNat (Ty.dflt Y40)).2.2.2.1, ((a0.getD x35.toNat (Ty.dflt Y40)).2.2.2.2.1, ((a0.getD x35.toNat (Ty.dflt Y40)).2.2.2.2.2.1, y47))))))])) x34 (IntKind.i64.wrap (x35 + (1 : Int)))))) (F26_j0 N x33)
def F26_l0 (N : Nat) (a0 : (List (Int × (ByteArray × (Int × (Int × (Int × (Bool × (List Int))))))))) : Nat → (List (Int × (ByteArray × (Int × (Int × (Int × (Bool × (List Int)))))))) → Int → Int → Option ((List (Int × (ByteArray × (Int × (Int × (Int × (Bool × (List Int))))))))) := loopF (F26_l0_b N a0) (fun _ _ _ => none)
theorem F26_l0_s (N : Nat) (a0 : (List (Int × (ByteArray × (Int × (Int × (Int × (Bool × (List Int))))))))) {k : Nat} (hk : 0 < k) (x33 : (List (Int × (ByteArray × (Int × (Int × (Int × (Bool × (List Int))))))))) (x34 : Int) (x35 : Int) : F26_l0 N a0 k x33 x34 x35 = F26_l0_b N a0 (F26_l0 N a0 (k - 1)) x33 x34 x35 := by
  cases k with
  | zero => exact absurd hk (Nat.lt_irrefl 0)
  | succ m => rfl
def F26 (N : Nat) (a0 : (List (Int × (ByteArray × (Int × (Int × (Int × (Bool × (List Int))))))))) : Option ((List (Int × (ByteArray × (Int × (Int × (Int × (Bool × (List Int))))))))) :=
  F26_l0 N a0 N ([]) (a0.length : Int) (0 : Int)
theorem ok26 (N : Nat) (a0 : (List (Int × (ByteArray × (Int × (Int × (Int × (Bool × (List Int))))))))) {r : (List (Int × (ByteArray × (Int × (Int × (Int × (Bool × (List Int))))))))} (h : F26 N a0 = some r) : Con Go.Proofs.Try.prog 26 [.lf (.v (.sl Y40) a0)] [.lf (.own Y40 r .dp)] := by
  refine ⟨enters_of Go.Proofs.Try.func26 rfl (by decide), HC.intro [.lf (.own Y40 .dp)] T_ok Go.Proofs.Try.func26 rfl (Nat.le_of_ble_eq_true rfl) (Nat.le_of_ble_eq_true rfl) fun w0 E0 => ?_⟩
  unfold F26 at h
  show VW _ _ _ _ _ (retQ _ _ _ _) _
  refine VW.seq ?_
  refine VW.region ?_
  refine VO.seg T_ok .dp 1 [0] [] (s' := ⟨[(0, .lf (.v (.sl Y40) a0))], []⟩) (φ := True ∧ True) (by kernel_rfl) ⟨trivial, trivial⟩ ?_
  refine VO.nil ?_
  show VW _ _ _ _ _ _ _
  refine VW.seq ?_
  refine VW.region ?_
  refine VO.seg T_ok .dp 1 [0, 3] [] (s' := ⟨[(0, .lf (.v (.sl Y40) a0)), (3, .lf (.nil))], []⟩) (φ := True ∧ True) (by kernel_rfl) ⟨trivial, trivial⟩ ?_
  refine VO.nil ?_
  show VW _ _ _ _ _ _ _
  refine VW.join (fun s => ∃ (x24 : (List (Int × (ByteArray × (Int × (Int × (Int × (Bool × (List Int))))))))), s = ⟨[(3, .lf (.hd 0 0 none))], [ar 0 Y40 x24 .dp]⟩ ∧ F26_j0 N x24 = some r) ?_ ?_
  · refine VW.seq ?_
    refine VW.region ?_
    refine VO.seg T_ok .dp 3 [3, 6, 7, 8] [] (s' := ⟨[(3, .lf (.nil)), (6, .lf (.v (.sl Y40) a0)), (7, I (a0.length : Int)), (8, I (0 : Int))], []⟩) (φ := True ∧ True ∧ True ∧ True) (by kernel_rfl) ⟨trivial, trivial, trivial, trivial⟩ ?_
    refine VO.nil ?_
    show VW _ _ _ _ _ _ _
    refine VW.block ?_
    refine VW.loopL (fun k s => ∃ (x33 : (List (Int × (ByteArray × (Int × (Int × (Int × (Bool × (List Int))))))))) (x34 : Int) (x35 : Int), s = ⟨[(3, .lf (.hd 0 0 none)), (6, .lf (.v (.sl Y40) a0)), (7, I x34), (8, I x35)], [ar 0 Y40 x33 .dp]⟩ ∧ F26_l0 N a0 k x33 x34 x35 = some r) N [.nilS 3 Y40 .dp, .ren [3, 6, 7, 8] [0]] (by kernel_rfl) ⟨[], (a0.length : Int), (0 : Int), rfl, h⟩ ?_
    rintro k42 s ⟨x33, x34, x35, rfl, h⟩
    cases k42 with
    | zero => exact nomatch (show (none : Option ((List (Int × (ByteArray × (Int × (Int × (Int × (Bool × (List Int)))))))))) = some r from h)
    | succ k42 =>
      replace h : F26_l0_b N a0 (F26_l0 N a0 k42) x33 x34 x35 = some r := h
      unfold F26_l0_b at h
      refine VW.seq ?_
      refine VW.region ?_
      refine VO.seg T_ok .dp 1 [3, 6, 7, 8, 9] [0] (s' := ⟨[(3, .lf (.hd 0 0 none)), (6, .lf (.v (.sl Y40) a0)), (7, I x34), (8, I x35), (9, B (decide (x35 < x34)))], [ar 0 Y40 x33 .dp]⟩) (φ := True ∧ True) (by kernel_rfl) ⟨trivial, trivial⟩ ?_
      refine VO.nil ?_
      show VW _ _ _ _ _ _ _
      refine VW.seq ?_
      refine VW.cond (b := (decide (x35 < x34))) (by kernel_rfl) (fun hb => ?_) (fun hb => ?_)
      · replace h := cond_t h hb; clear hb
        refine VW.skip ?_
        show VW _ _ _ _ _ _ _
        refine VW.seq ?_
        refine VW.block ?_
        refine VW.seq ?_
        refine VW.region ?_
        obtain ⟨g46, h⟩ := gd_some h
        refine VO.seg T_ok .dp 4 [3, 5, 6, 7, 8] [0, 1] (s' := ⟨[(3, .lf (.hd 0 0 none)), (5, .lf (.ptr 1 0 0 0)), (6, .lf (.v (.sl Y40) a0)), (7, I x34), (8, I x35)], [ar 0 Y40 x33 .dp, bx [.v (.int .i64) ((a0.getD x35.toNat (Ty.dflt Y40)).1), .v .str ((a0.getD x35.toNat (Ty.dflt Y40)).2.1), .v (.int .i64) ((a0.getD x35.toNat (Ty.dflt Y40)).2.2.1), .v (.int .i64) ((a0.getD x35.toNat (Ty.dflt Y40)).2.2.2.1), .v (.int .i64) ((a0.getD x35.toNat (Ty.dflt Y40)).2.2.2.2.1), .v .bool ((a0.getD x35.toNat (Ty.dflt Y40)).2.2.2.2.2.1), .v (.sl (.int .i64)) ((a0.getD x35.toNat (Ty.dflt Y40)).2.2.2.2.2.2)] 44]⟩) (φ := (InR x35 a0.length) ∧ True ∧ True ∧ True ∧ True) (by kernel_rfl) ⟨g46, trivial, trivial, trivial, trivial⟩ ?_
        refine VO.nil ?_
        show VW _ _ _ _ _ _ _
        refine VW.seq ?_
        refine VW.region ?_
        refine VO.seg T_ok .dp 2 [3, 5, 6, 7, 8, 13] [0, 1] (s' := ⟨[(3, .lf (.hd 0 0 none)), (5, .lf (.ptr 1 0 0 0)), (6, .lf (.v (.sl Y40) a0)), (7, I x34), (8, I x35), (13, .lf (.v (.sl (.int .i64)) ((a0.getD x35.toNat (Ty.dflt Y40)).2.2.2.2.2.2)))], [ar 0 Y40 x33 .dp, bx [.v (.int .i64) ((a0.getD x35.toNat (Ty.dflt Y40)).1), .v .str ((a0.getD x35.toNat (Ty.dflt Y40)).2.1), .v (.int .i64) ((a0.getD x35.toNat (Ty.dflt Y40)).2.2.1), .v (.int .i64) ((a0.getD x35.toNat (Ty.dflt Y40)).2.2.2.1), .v (.int .i64) ((a0.getD x35.toNat (Ty.dflt Y40)).2.2.2.2.1), .v .bool ((a0.getD x35.toNat (Ty.dflt Y40)).2.2.2.2.2.1), .v (.sl (.int .i64)) ((a0.getD x35.toNat (Ty.dflt Y40)).2.2.2.2.2.2)] 44]⟩) (φ := True ∧ True ∧ True) (by kernel_rfl) ⟨trivial, trivial, trivial⟩ ?_
        obtain ⟨y47, hy, h⟩ := andO_some h
        refine VO.call false [.t (.sl (.int .i64))] [] T_ok (d := some 14) (by kernel_rfl) (ok45 N _ hy) rfl ?_
        refine VO.seg T_ok .dp 2 [3, 5, 6, 7, 8] [0, 1, 2] (s' := ⟨[(3, .lf (.hd 0 0 none)), (5, .lf (.ptr 1 0 0 0)), (6, .lf (.v (.sl Y40) a0)), (7, I x34), (8, I x35)], [ar 0 Y40 x33 .dp, bx [.v (.int .i64) ((a0.getD x35.toNat (Ty.dflt Y40)).1), .v .str ((a0.getD x35.toNat (Ty.dflt Y40)).2.1), .v (.int .i64) ((a0.getD x35.toNat (Ty.dflt Y40)).2.2.1), .v (.int .i64) ((a0.getD x35.toNat (Ty.dflt Y40)).2.2.2.1), .v (.int .i64) ((a0.getD x35.toNat (Ty.dflt Y40)).2.2.2.2.1), .v .bool ((a0.getD x35.toNat (Ty.dflt Y40)).2.2.2.2.2.1), .hd 2 0 none] 44, ar 0 (.int .i64) y47 .dp]⟩) (φ := True ∧ True ∧ True) (by kernel_rfl) ⟨trivial, trivial, trivial⟩ ?_
        refine VO.nil ?_
        show VW _ _ _ _ _ _ _
        refine VW.region ?_
        refine VO.seg T_ok .dp 2 [6, 7, 8, 16, 17] [0, 2] (s' := ⟨[(6, .lf (.v (.sl Y40) a0)), (7, I x34), (8, I x35), (16, .lf (.hd 0 0 none)), (17, .agg [.v (.int .i64) ((a0.getD x35.toNat (Ty.dflt Y40)).1), .v .str ((a0.getD x35.toNat (Ty.dflt Y40)).2.1), .v (.int .i64) ((a0.getD x35.toNat (Ty.dflt Y40)).2.2.1), .v (.int .i64) ((a0.getD x35.toNat (Ty.dflt Y40)).2.2.2.1), .v (.int .i64) ((a0.getD x35.toNat (Ty.dflt Y40)).2.2.2.2.1), .v .bool ((a0.getD x35.toNat (Ty.dflt Y40)).2.2.2.2.2.1), .hd 1 0 none])], [ar 0 Y40 x33 .dp, ar 0 (.int .i64) y47 .dp]⟩) (φ := True ∧ True ∧ True) (by kernel_rfl) ⟨trivial, trivial, trivial⟩ ?_
        refine VO.litA (d := 18) (v := .lf (.hd 2 0 none)) (H' := [ar 0 Y40 x33 .dp, none, ar 0 Y40 ([((a0.getD x35.toNat (Ty.dflt Y40)).1, ((a0.getD x35.toNat (Ty.dflt Y40)).2.1, ((a0.getD x35.toNat (Ty.dflt Y40)).2.2.1, ((a0.getD x35.toNat (Ty.dflt Y40)).2.2.2.1, ((a0.getD x35.toNat (Ty.dflt Y40)).2.2.2.2.1, ((a0.getD x35.toNat (Ty.dflt Y40)).2.2.2.2.2.1, y47))))))]) .dp]) T_ok (by kernel_rfl) ?_
        obtain ⟨g48, h⟩ := gd_some h
        refine VO.appM (d := 19) (φ := x33.length + ([((a0.getD x35.toNat (Ty.dflt Y40)).1, ((a0.getD x35.toNat (Ty.dflt Y40)).2.1, ((a0.getD x35.toNat (Ty.dflt Y40)).2.2.1, ((a0.getD x35.toNat (Ty.dflt Y40)).2.2.2.1, ((a0.getD x35.toNat (Ty.dflt Y40)).2.2.2.2.1, ((a0.getD x35.toNat (Ty.dflt Y40)).2.2.2.2.2.1, y47))))))]).length ≤ lim Y40) (v := .lf (.hd 0 1 none)) (H' := [ar 1 Y40 (x33 ++ ([((a0.getD x35.toNat (Ty.dflt Y40)).1, ((a0.getD x35.toNat (Ty.dflt Y40)).2.1, ((a0.getD x35.toNat (Ty.dflt Y40)).2.2.1, ((a0.getD x35.toNat (Ty.dflt Y40)).2.2.2.1, ((a0.getD x35.toNat (Ty.dflt Y40)).2.2.2.2.1, ((a0.getD x35.toNat (Ty.dflt Y40)).2.2.2.2.2.1, y47))))))])) .dp, none, none]) T_ok (by kernel_rfl) g48 ?_
        refine VO.seg T_ok .dp 1 [3, 6, 7, 8] [0] (s' := ⟨[(3, .lf (.hd 0 0 none)), (6, .lf (.v (.sl Y40) a0)), (7, I x34), (8, I x35)], [ar 0 Y40 (x33 ++ ([((a0.getD x35.toNat (Ty.dflt Y40)).1, ((a0.getD x35.toNat (Ty.dflt Y40)).2.1, ((a0.getD x35.toNat (Ty.dflt Y40)).2.2.1, ((a0.getD x35.toNat (Ty.dflt Y40)).2.2.2.1, ((a0.getD x35.toNat (Ty.dflt Y40)).2.2.2.2.1, ((a0.getD x35.toNat (Ty.dflt Y40)).2.2.2.2.2.1, y47))))))])) .dp]⟩) (φ := True ∧ True) (by kernel_rfl) ⟨trivial, trivial⟩ ?_
        refine VO.nil ?_
        show VW _ _ _ _ _ _ _
        refine VW.region ?_
        refine VO.seg T_ok .dp 2 [3, 6, 7, 8] [0] (s' := ⟨[(3, .lf (.hd 0 0 none)), (6, .lf (.v (.sl Y40) a0)), (7, I x34), (8, I (IntKind.i64.wrap (x35 + (1 : Int))))], [ar 0 Y40 (x33 ++ ([((a0.getD x35.toNat (Ty.dflt Y40)).1, ((a0.getD x35.toNat (Ty.dflt Y40)).2.1, ((a0.getD x35.toNat (Ty.dflt Y40)).2.2.1, ((a0.getD x35.toNat (Ty.dflt Y40)).2.2.2.1, ((a0.getD x35.toNat (Ty.dflt Y40)).2.2.2.2.1, ((a0.getD x35.toNat (Ty.dflt Y40)).2.2.2.2.2.1, y47))))))])) .dp]⟩) (φ := True ∧ True ∧ True) (by kernel_rfl) ⟨trivial, trivial, trivial⟩ ?_
        refine VO.nil ?_
        exact around [.ren [3, 6, 7, 8] [0]] (by kernel_rfl) ⟨(x33 ++ ([((a0.getD x35.toNat (Ty.dflt Y40)).1, ((a0.getD x35.toNat (Ty.dflt Y40)).2.1, ((a0.getD x35.toNat (Ty.dflt Y40)).2.2.1, ((a0.getD x35.toNat (Ty.dflt Y40)).2.2.2.1, ((a0.getD x35.toNat (Ty.dflt Y40)).2.2.2.2.1, ((a0.getD x35.toNat (Ty.dflt Y40)).2.2.2.2.2.1, y47))))))])), x34, (IntKind.i64.wrap (x35 + (1 : Int))), rfl, h⟩
      · replace h := cond_f h hb; clear hb
        refine VW.exit ?_
        exact arrive [.ren [3] [0]] (by kernel_rfl) ⟨x33, rfl, h⟩
  · rintro s ⟨x24, rfl, h⟩
    unfold F26_j0 at h
    refine VW.seq ?_
    refine VW.region ?_
    refine VO.seg T_ok .dp 2 [2] [0] (s' := ⟨[(2, .lf (.hd 0 0 none))], [ar 0 Y40 x24 .dp]⟩) (φ := True ∧ True ∧ True) (by kernel_rfl) ⟨trivial, trivial, trivial⟩ ?_
    refine VO.nil ?_
    show VW _ _ _ _ _ _ _
    refine VW.ret ?_
    replace h := Option.some.inj h
    subst h
    exact retR [some 0] (by kernel_rfl) rfl

/- loop.example/g00844/laws.eqIntS -/
def F12_j0 (N : Nat) : Option (Bool) :=
  some true
def F12_l0_b (N : Nat) (a0 : (List Int)) (a1 : (List Int)) (nx25 : Int → Option (Bool)) (x20 : Int) : Option (Bool) :=
  cond (decide (x20 < (a0.length : Int))) (gd (InR x20 a0.length) (gd (InR x20 a1.length) (cond ((a0.getD x20.toNat (Ty.dflt (.int .i64))) != (a1.getD x20.toNat (Ty.dflt (.int .i64)))) (some false) (nx25 (IntKind.i64.wrap (x20 + (1 : Int))))))) (F12_j0 N)
def F12_l0 (N : Nat) (a0 : (List Int)) (a1 : (List Int)) : Nat → Int → Option (Bool) := loopF (F12_l0_b N a0 a1) (fun _ => none)
theorem F12_l0_s (N : Nat) (a0 : (List Int)) (a1 : (List Int)) {k : Nat} (hk : 0 < k) (x20 : Int) : F12_l0 N a0 a1 k x20 = F12_l0_b N a0 a1 (F12_l0 N a0 a1 (k - 1)) x20 := by
  cases k with
  | zero => exact absurd hk (Nat.lt_irrefl 0)
  | succ m => rfl
def F12 (N : Nat) (a0 : (List Int)) (a1 : (List Int)) : Option (Bool) :=
  cond ((a0.length : Int) != (a1.length : Int)) (some false) (F12_l0 N a0 a1 N (0 : Int))
theorem ok12 (N : Nat) (a0 : (List Int)) (a1 : (List Int)) {r : Bool} (h : F12 N a0 a1 = some r) : Con Go.Proofs.Try.prog 12 [.lf (.v (.sl (.int .i64)) a0), .lf (.v (.sl (.int .i64)) a1)] [.lf (.v .bool r)] := by
  refine ⟨enters_of Go.Proofs.Try.func12 rfl (by decide), HC.intro [.lf (.v .bool)] T_ok Go.Proofs.Try.func12 rfl (Nat.le_of_ble_eq_true rfl) (Nat.le_of_ble_eq_true rfl) fun w0 E0 => ?_⟩
  unfold F12 at h
  show VW _ _ _ _ _ (retQ _ _ _ _) _
  refine VW.seq ?_
  refine VW.region ?_
  refine VO.seg T_ok .dp 1 [0, 1] [] (s' := ⟨[(0, .lf (.v (.sl (.int .i64)) a0)), (1, .lf (.v (.sl (.int .i64)) a1))], []⟩) (φ := True ∧ True) (by kernel_rfl) ⟨trivial, trivial⟩ ?_
  refine VO.nil ?_
  show VW _ _ _ _ _ _ _
  refine VW.seq ?_
  refine VW.seq ?_
  refine VW.region ?_
  refine VO.seg T_ok .dp 5 [0, 1, 10] [] (s' := ⟨[(0, .lf (.v (.sl (.int .i64)) a0)), (1, .lf (.v (.sl (.int .i64)) a1)), (10, B ((a0.length : Int) != (a1.length : Int)))], []⟩) (φ := True ∧ True ∧ True ∧ True ∧ True ∧ True) (by kernel_rfl) ⟨trivial, trivial, trivial, trivial, trivial, trivial⟩ ?_
  refine VO.nil ?_
  show VW _ _ _ _ _ _ _
  refine VW.cond (b := ((a0.length : Int) != (a1.length : Int))) (by kernel_rfl) (fun hb => ?_) (fun hb => ?_)
  · replace h := cond_t h hb; clear hb
    refine VW.seq ?_
    refine VW.region ?_
    refine VO.seg T_ok .dp 1 [4] [] (s' := ⟨[(4, B false)], []⟩) (φ := True ∧ True) (by kernel_rfl) ⟨trivial, trivial⟩ ?_
    refine VO.nil ?_
    show VW _ _ _ _ _ _ _
    refine VW.ret ?_
    replace h := Option.some.inj h
    subst h
    exact retR [] (by kernel_rfl) rfl
  · replace h := cond_f h hb; clear hb
    refine VW.skip ?_
    show VW _ _ _ _ _ _ _
    refine VW.join (fun s => s = ⟨[], []⟩ ∧ F12_j0 N = some r) ?_ ?_
    · refine VW.seq ?_
      refine VW.region ?_
      refine VO.seg T_ok .dp 1 [0, 1, 5] [] (s' := ⟨[(0, .lf (.v (.sl (.int .i64)) a0)), (1, .lf (.v (.sl (.int .i64)) a1)), (5, I (0 : Int))], []⟩) (φ := True ∧ True) (by kernel_rfl) ⟨trivial, trivial⟩ ?_
      refine VO.nil ?_
      show VW _ _ _ _ _ _ _
      refine VW.block ?_
      refine VW.loopL (fun k s => ∃ (x20 : Int), s = ⟨[(0, .lf (.v (.sl (.int .i64)) a0)), (1, .lf (.v (.sl (.int .i64)) a1)), (5, I x20)], []⟩ ∧ F12_l0 N a0 a1 k x20 = some r) N [.ren [0, 1, 5] []] (by kernel_rfl) ⟨(0 : Int), rfl, h⟩ ?_
      rintro k25 s ⟨x20, rfl, h⟩
      cases k25 with
      | zero => exact nomatch (show (none : Option (Bool)) = some r from h)
      | succ k25 =>
        replace h : F12_l0_b N a0 a1 (F12_l0 N a0 a1 k25) x20 = some r := h
        unfold F12_l0_b at h
        refine VW.seq ?_
        refine VW.seq ?_
        refine VW.region ?_
        refine VO.seg T_ok .dp 4 [0, 1, 5, 14] [] (s' := ⟨[(0, .lf (.v (.sl (.int .i64)) a0)), (1, .lf (.v (.sl (.int .i64)) a1)), (5, I x20), (14, B (decide (x20 < (a0.length : Int))))], []⟩) (φ := True ∧ True ∧ True ∧ True ∧ True) (by kernel_rfl) ⟨trivial, trivial, trivial, trivial, trivial⟩ ?_
        refine VO.nil ?_
        show VW _ _ _ _ _ _ _
        refine VW.cond (b := (decide (x20 < (a0.length : Int)))) (by kernel_rfl) (fun hb => ?_) (fun hb => ?_)
        · replace h := cond_t h hb; clear hb
          refine VW.skip ?_
          show VW _ _ _ _ _ _ _
          refine VW.seq ?_
          refine VW.block ?_
          refine VW.seq ?_
          obtain ⟨g28, h⟩ := gd_some h
          obtain ⟨g29, h⟩ := gd_some h
          refine VW.drawn (by kernel_rfl) [some (17, .lf (.v (.sl (.int .i64)) a0)), some (18, I x20), some (19, .lf (.fp (.int .i64) (a0.getD x20.toNat (Ty.dflt (.int .i64))) 0)), some (20, I (a0.getD x20.toNat (Ty.dflt (.int .i64)))), some (21, .lf (.v (.sl (.int .i64)) a1)), some (22, I x20), some (23, .lf (.fp (.int .i64) (a1.getD x20.toNat (Ty.dflt (.int .i64))) 0)), some (24, I (a1.getD x20.toNat (Ty.dflt (.int .i64)))), some (25, B ((a0.getD x20.toNat (Ty.dflt (.int .i64))) != (a1.getD x20.toNat (Ty.dflt (.int .i64)))))] [] [[]] [(0, 0), (1, 0), (2, 0), (3, 0), (4, 0), (5, 0), (6, 0), (7, 0), (8, 0)] [0, 1, 5, 25] [] (s' := ⟨[(0, .lf (.v (.sl (.int .i64)) a0)), (1, .lf (.v (.sl (.int .i64)) a1)), (5, I x20), (25, B ((a0.getD x20.toNat (Ty.dflt (.int .i64))) != (a1.getD x20.toNat (Ty.dflt (.int .i64)))))], []⟩) (by kernel_rfl) (by kernel_rfl) ⟨⟨_, rfl, Stp.ev T_ok (m := .dp) (φ := True) (by kernel_rfl) trivial⟩,
    ⟨_, rfl, Stp.ev T_ok (m := .dp) (φ := True) (by kernel_rfl) trivial⟩,
    ⟨_, rfl, Stp.ev T_ok (m := .dp) (φ := InR x20 a0.length) (by kernel_rfl) g28⟩,
    ⟨_, rfl, Stp.ev T_ok (m := .dp) (φ := True) (by kernel_rfl) trivial⟩,
    ⟨_, rfl, Stp.ev T_ok (m := .dp) (φ := True) (by kernel_rfl) trivial⟩,
    ⟨_, rfl, Stp.ev T_ok (m := .dp) (φ := True) (by kernel_rfl) trivial⟩,
    ⟨_, rfl, Stp.ev T_ok (m := .dp) (φ := InR x20 a1.length) (by kernel_rfl) g29⟩,
    ⟨_, rfl, Stp.ev T_ok (m := .dp) (φ := True) (by kernel_rfl) trivial⟩,
    ⟨_, rfl, Stp.ev T_ok (m := .dp) (φ := True) (by kernel_rfl) trivial⟩, trivial⟩ (by kernel_rfl) ?_
          show VW _ _ _ _ _ _ _
          refine VW.cond (b := ((a0.getD x20.toNat (Ty.dflt (.int .i64))) != (a1.getD x20.toNat (Ty.dflt (.int .i64))))) (by kernel_rfl) (fun hb => ?_) (fun hb => ?_)
          · replace h := cond_t h hb; clear hb
            refine VW.seq ?_
            refine VW.region ?_
            refine VO.seg T_ok .dp 1 [4] [] (s' := ⟨[(4, B false)], []⟩) (φ := True ∧ True) (by kernel_rfl) ⟨trivial, trivial⟩ ?_
            refine VO.nil ?_
            show VW _ _ _ _ _ _ _
            refine VW.ret ?_
            replace h := Option.some.inj h
            subst h
            exact retR [] (by kernel_rfl) rfl
          · replace h := cond_f h hb; clear hb
            refine VW.skip ?_
            show VW _ _ _ _ _ _ _
            refine VW.region ?_
            refine VO.seg T_ok .dp 3 [0, 1, 5] [] (s' := ⟨[(0, .lf (.v (.sl (.int .i64)) a0)), (1, .lf (.v (.sl (.int .i64)) a1)), (5, I (IntKind.i64.wrap (x20 + (1 : Int))))], []⟩) (φ := True ∧ True ∧ True ∧ True) (by kernel_rfl) ⟨trivial, trivial, trivial, trivial⟩ ?_
            refine VO.nil ?_
            exact around [.ren [0, 1, 5] []] (by kernel_rfl) ⟨(IntKind.i64.wrap (x20 + (1 : Int))), rfl, h⟩
        · replace h := cond_f h hb; clear hb
          refine VW.exit ?_
          exact arrive [.ren [] []] (by kernel_rfl) ⟨rfl, h⟩
    · rintro s ⟨rfl, h⟩
      unfold F12_j0 at h
      refine VW.seq ?_
      refine VW.region ?_
      refine VO.seg T_ok .dp 1 [4] [] (s' := ⟨[(4, B true)], []⟩) (φ := True ∧ True) (by kernel_rfl) ⟨trivial, trivial⟩ ?_
      refine VO.nil ?_
      show VW _ _ _ _ _ _ _
      refine VW.ret ?_
      replace h := Option.some.inj h
      subst h
      exact retR [] (by kernel_rfl) rfl

/- loop.example/g00844/laws.eqNode -/
def F27 (N : Nat) (a0 : (Int × (ByteArray × (Int × (Int × (Int × (Bool × (List Int)))))))) (a1 : (Int × (ByteArray × (Int × (Int × (Int × (Bool × (List Int)))))))) : Option (Bool) :=
  cond (a0.1 != a1.1) (some false) (cond (!(a0.2.1.toList == a1.2.1.toList)) (some false) (cond (a0.2.2.1 != a1.2.2.1) (some false) (cond (a0.2.2.2.1 != a1.2.2.2.1) (some false) (cond (a0.2.2.2.2.1 != a1.2.2.2.2.1) (some false) (cond (!(a0.2.2.2.2.2.1 == a1.2.2.2.2.2.1)) (some false) (andO (F12 N a0.2.2.2.2.2.2 a1.2.2.2.2.2.2) fun y2 => cond (!y2) (some false) (some true)))))))
theorem ok27 (N : Nat) (a0 : (Int × (ByteArray × (Int × (Int × (Int × (Bool × (List Int)))))))) (a1 : (Int × (ByteArray × (Int × (Int × (Int × (Bool × (List Int)))))))) {r : Bool} (h : F27 N a0 a1 = some r) : Con Go.Proofs.Try.prog 27 [.agg [.v (.int .i64) a0.1, .v .str a0.2.1, .v (.int .i64) a0.2.2.1, .v (.int .i64) a0.2.2.2.1, .v (.int .i64) a0.2.2.2.2.1, .v .bool a0.2.2.2.2.2.1, .v (.sl (.int .i64)) a0.2.2.2.2.2.2], .agg [.v (.int .i64) a1.1, .v .str a1.2.1, .v (.int .i64) a1.2.2.1, .v (.int .i64) a1.2.2.2.1, .v (.int .i64) a1.2.2.2.2.1, .v .bool a1.2.2.2.2.2.1, .v (.sl (.int .i64)) a1.2.2.2.2.2.2]] [.lf (.v .bool r)] := by
  refine ⟨enters_of Go.Proofs.Try.func27 rfl (by decide), HC.intro [.lf (.v .bool)] T_ok Go.Proofs.Try.func27 rfl (Nat.le_of_ble_eq_true rfl) (Nat.le_of_ble_eq_true rfl) fun w0 E0 => ?_⟩
  unfold F27 at h
  show VW _ _ _ _ _ (retQ _ _ _ _) _
  refine VW.seq ?_
  refine VW.region ?_
  refine VO.seg T_ok .dp 3 [2, 3] [0, 1] (s' := ⟨[(2, .lf (.ptr 0 0 0 0)), (3, .lf (.ptr 1 0 0 0))], [bx [.v (.int .i64) a0.1, .v .str a0.2.1, .v (.int .i64) a0.2.2.1, .v (.int .i64) a0.2.2.2.1, .v (.int .i64) a0.2.2.2.2.1, .v .bool a0.2.2.2.2.2.1, .v (.sl (.int .i64)) a0.2.2.2.2.2.2] 44, bx [.v (.int .i64) a1.1, .v .str a1.2.1, .v (.int .i64) a1.2.2.1, .v (.int .i64) a1.2.2.2.1, .v (.int .i64) a1.2.2.2.2.1, .v .bool a1.2.2.2.2.2.1, .v (.sl (.int .i64)) a1.2.2.2.2.2.2] 44]⟩) (φ := True ∧ True ∧ True ∧ True) (by kernel_rfl) ⟨trivial, trivial, trivial, trivial⟩ ?_
  refine VO.nil ?_
  show VW _ _ _ _ _ _ _
  refine VW.seq ?_
  refine VW.seq ?_
  refine VW.region ?_
  refine VO.seg T_ok .dp 5 [2, 3, 9] [0, 1] (s' := ⟨[(2, .lf (.ptr 0 0 0 0)), (3, .lf (.ptr 1 0 0 0)), (9, B (a0.1 != a1.1))], [bx [.v (.int .i64) a0.1, .v .str a0.2.1, .v (.int .i64) a0.2.2.1, .v (.int .i64) a0.2.2.2.1, .v (.int .i64) a0.2.2.2.2.1, .v .bool a0.2.2.2.2.2.1, .v (.sl (.int .i64)) a0.2.2.2.2.2.2] 44, bx [.v (.int .i64) a1.1, .v .str a1.2.1, .v (.int .i64) a1.2.2.1, .v (.int .i64) a1.2.2.2.1, .v (.int .i64) a1.2.2.2.2.1, .v .bool a1.2.2.2.2.2.1, .v (.sl (.int .i64)) a1.2.2.2.2.2.2] 44]⟩) (φ := True ∧ True ∧ True ∧ True ∧ True ∧ True) (by kernel_rfl) ⟨trivial, trivial, trivial, trivial, trivial, trivial⟩ ?_
  refine VO.nil ?_
  show VW _ _ _ _ _ _ _
  refine VW.cond (b := (a0.1 != a1.1)) (by kernel_rfl) (fun hb => ?_) (fun hb => ?_)
  · replace h := cond_t h hb; clear hb
    refine VW.seq ?_
    refine VW.region ?_
    refine VO.seg T_ok .dp 1 [4] [] (s' := ⟨[(4, B false)], []⟩) (φ := True ∧ True) (by kernel_rfl) ⟨trivial, trivial⟩ ?_
    refine VO.nil ?_
    show VW _ _ _ _ _ _ _
    refine VW.ret ?_
    replace h := Option.some.inj h
    subst h
    exact retR [] (by kernel_rfl) rfl
  · replace h := cond_f h hb; clear hb
    refine VW.skip ?_
    show VW _ _ _ _ _ _ _
    refine VW.seq ?_
    refine VW.seq ?_
    refine VW.region ?_
    refine VO.seg T_ok .dp 5 [2, 3, 14] [0, 1] (s' := ⟨[(2, .lf (.ptr 0 0 0 0)), (3, .lf (.ptr 1 0 0 0)), (14, B (!(a0.2.1.toList == a1.2.1.toList)))], [bx [.v (.int .i64) a0.1, .v .str a0.2.1, .v (.int .i64) a0.2.2.1, .v (.int .i64) a0.2.2.2.1, .v (.int .i64) a0.2.2.2.2.1, .v .bool a0.2.2.2.2.2.1, .v (.sl (.int .i64)) a0.2.2.2.2.2.2] 44, bx [.v (.int .i64) a1.1, .v .str a1.2.1, .v (.int .i64) a1.2.2.1, .v (.int .i64) a1.2.2.2.1, .v (.int .i64) a1.2.2.2.2.1, .v .bool a1.2.2.2.2.2.1, .v (.sl (.int .i64)) a1.2.2.2.2.2.2] 44]⟩) (φ := True ∧ True ∧ True ∧ True ∧ True ∧ True) (by kernel_rfl) ⟨trivial, trivial, trivial, trivial, trivial, trivial⟩ ?_
    refine VO.nil ?_
    show VW _ _ _ _ _ _ _
    refine VW.cond (b := (!(a0.2.1.toList == a1.2.1.toList))) (by kernel_rfl) (fun hb => ?_) (fun hb => ?_)
    · replace h := cond_t h hb; clear hb
      refine VW.seq ?_
      refine VW.region ?_
      refine VO.seg T_ok .dp 1 [4] [] (s' := ⟨[(4, B false)], []⟩) (φ := True ∧ True) (by kernel_rfl) ⟨trivial, trivial⟩ ?_
      refine VO.nil ?_
      show VW _ _ _ _ _ _ _
      refine VW.ret ?_
      replace h := Option.some.inj h
      subst h
      exact retR [] (by kernel_rfl) rfl
    · replace h := cond_f h hb; clear hb
      refine VW.skip ?_
      show VW _ _ _ _ _ _ _
      refine VW.seq ?_
      refine VW.seq ?_
      refine VW.region ?_
      refine VO.seg T_ok .dp 5 [2, 3, 19] [0, 1] (s' := ⟨[(2, .lf (.ptr 0 0 0 0)), (3, .lf (.ptr 1 0 0 0)), (19, B (a0.2.2.1 != a1.2.2.1))], [bx [.v (.int .i64) a0.1, .v .str a0.2.1, .v (.int .i64) a0.2.2.1, .v (.int .i64) a0.2.2.2.1, .v (.int .i64) a0.2.2.2.2.1, .v .bool a0.2.2.2.2.2.1, .v (.sl (.int .i64)) a0.2.2.2.2.2.2] 44, bx [.v (.int .i64) a1.1, .v .str a1.2.1, .v (.int .i64) a1.2.2.1, .v (.int .i64) a1.2.2.2.1, .v (.int .i64) a1.2.2.2.2.1, .v .bool a1.2.2.2.2.2.1, .v (.sl (.int .i64)) a1.2.2.2.2.2.2] 44]⟩) (φ := True ∧ True ∧ True ∧ True ∧ True ∧ True) (by kernel_rfl) ⟨trivial, trivial, trivial, trivial, trivial, trivial⟩ ?_
      refine VO.nil ?_
      show VW _ _ _ _ _ _ _
      refine VW.cond (b := (a0.2.2.1 != a1.2.2.1)) (by kernel_rfl) (fun hb => ?_) (fun hb => ?_)
      · replace h := cond_t h hb; clear hb
        refine VW.seq ?_
        refine VW.region ?_
        refine VO.seg T_ok .dp 1 [4] [] (s' := ⟨[(4, B false)], []⟩) (φ := True ∧ True) (by kernel_rfl) ⟨trivial, trivial⟩ ?_
        refine VO.nil ?_
        show VW _ _ _ _ _ _ _
        refine VW.ret ?_
        replace h := Option.some.inj h
        subst h
        exact retR [] (by kernel_rfl) rfl
      · replace h := cond_f h hb; clear hb
        refine VW.skip ?_
        show VW _ _ _ _ _ _ _
        refine VW.seq ?_
        refine VW.seq ?_
        refine VW.region ?_
        refine VO.seg T_ok .dp 5 [2, 3, 24] [0, 1] (s' := ⟨[(2, .lf (.ptr 0 0 0 0)), (3, .lf (.ptr 1 0 0 0)), (24, B (a0.2.2.2.1 != a1.2.2.2.1))], [bx [.v (.int .i64) a0.1, .v .str a0.2.1, .v (.int .i64) a0.2.2.1, .v (.int .i64) a0.2.2.2.1, .v (.int .i64) a0.2.2.2.2.1, .v .bool a0.2.2.2.2.2.1, .v (.sl (.int .i64)) a0.2.2.2.2.2.2] 44, bx [.v (.int .i64) a1.1, .v .str a1.2.1, .v (.int .i64) a1.2.2.1, .v (.int .i64) a1.2.2.2.1, .v (.int .i64) a1.2.2.2.2.1, .v .bool a1.2.2.2.2.2.1, .v (.sl (.int .i64)) a1.2.2.2.2.2.2] 44]⟩) (φ := True ∧ True ∧ True ∧ True ∧ True ∧ True) (by kernel_rfl) ⟨trivial, trivial, trivial, trivial, trivial, trivial⟩ ?_
        refine VO.nil ?_
        show VW _ _ _ _ _ _ _
        refine VW.cond (b := (a0.2.2.2.1 != a1.2.2.2.1)) (by kernel_rfl) (fun hb => ?_) (fun hb => ?_)
        · replace h := cond_t h hb; clear hb
          refine VW.seq ?_
          refine VW.region ?_
          refine VO.seg T_ok .dp 1 [4] [] (s' := ⟨[(4, B false)], []⟩) (φ := True ∧ True) (by kernel_rfl) ⟨trivial, trivial⟩ ?_
          refine VO.nil ?_
          show VW _ _ _ _ _ _ _
          refine VW.ret ?_
          replace h := Option.some.inj h
          subst h
          exact retR [] (by kernel_rfl) rfl
        · replace h := cond_f h hb; clear hb
          refine VW.skip ?_
          show VW _ _ _ _ _ _ _
          refine VW.seq ?_
          refine VW.seq ?_
          refine VW.region ?_
          refine VO.seg T_ok .dp 5 [2, 3, 29] [0, 1] (s' := ⟨[(2, .lf (.ptr 0 0 0 0)), (3, .lf (.ptr 1 0 0 0)), (29, B (a0.2.2.2.2.1 != a1.2.2.2.2.1))], [bx [.v (.int .i64) a0.1, .v .str a0.2.1, .v (.int .i64) a0.2.2.1, .v (.int .i64) a0.2.2.2.1, .v (.int .i64) a0.2.2.2.2.1, .v .bool a0.2.2.2.2.2.1, .v (.sl (.int .i64)) a0.2.2.2.2.2.2] 44, bx [.v (.int .i64) a1.1, .v .str a1.2.1, .v (.int .i64) a1.2.2.1, .v (.int .i64) a1.2.2.2.1, .v (.int .i64) a1.2.2.2.2.1, .v .bool a1.2.2.2.2.2.1, .v (.sl (.int .i64)) a1.2.2.2.2.2.2] 44]⟩) (φ := True ∧ True ∧ True ∧ True ∧ True ∧ True) (by kernel_rfl) ⟨trivial, trivial, trivial, trivial, trivial, trivial⟩ ?_
          refine VO.nil ?_
          show VW _ _ _ _ _ _ _
          refine VW.cond (b := (a0.2.2.2.2.1 != a1.2.2.2.2.1)) (by kernel_rfl) (fun hb => ?_) (fun hb => ?_)
          · replace h := cond_t h hb; clear hb
            refine VW.seq ?_
            refine VW.region ?_
            refine VO.seg T_ok .dp 1 [4] [] (s' := ⟨[(4, B false)], []⟩) (φ := True ∧ True) (by kernel_rfl) ⟨trivial, trivial⟩ ?_
            refine VO.nil ?_
            show VW _ _ _ _ _ _ _
            refine VW.ret ?_
            replace h := Option.some.inj h
            subst h
            exact retR [] (by kernel_rfl) rfl
          · replace h := cond_f h hb; clear hb
            refine VW.skip ?_
            show VW _ _ _ _ _ _ _
            refine VW.seq ?_
            refine VW.seq ?_
            refine VW.region ?_
            refine VO.seg T_ok .dp 5 [2, 3, 34] [0, 1] (s' := ⟨[(2, .lf (.ptr 0 0 0 0)), (3, .lf (.ptr 1 0 0 0)), (34, B (!(a0.2.2.2.2.2.1 == a1.2.2.2.2.2.1)))], [bx [.v (.int .i64) a0.1, .v .str a0.2.1, .v (.int .i64) a0.2.2.1, .v (.int .i64) a0.2.2.2.1, .v (.int .i64) a0.2.2.2.2.1, .v .bool a0.2.2.2.2.2.1, .v (.sl (.int .i64)) a0.2.2.2.2.2.2] 44, bx [.v (.int .i64) a1.1, .v .str a1.2.1, .v (.int .i64) a1.2.2.1, .v (.int .i64) a1.2.2.2.1, .v (.int .i64) a1.2.2.2.2.1, .v .bool a1.2.2.2.2.2.1, .v (.sl (.int .i64)) a1.2.2.2.2.2.2] 44]⟩) (φ := True ∧ True ∧ True ∧ True ∧ True ∧ True) (by kernel_rfl) ⟨trivial, trivial, trivial, trivial, trivial, trivial⟩ ?_
            refine VO.nil ?_
            show VW _ _ _ _ _ _ _
            refine VW.cond (b := (!(a0.2.2.2.2.2.1 == a1.2.2.2.2.2.1))) (by kernel_rfl) (fun hb => ?_) (fun hb => ?_)
            · replace h := cond_t h hb; clear hb
              refine VW.seq ?_
              refine VW.region ?_
              refine VO.seg T_ok .dp 1 [4] [] (s' := ⟨[(4, B false)], []⟩) (φ := True ∧ True) (by kernel_rfl) ⟨trivial, trivial⟩ ?_
              refine VO.nil ?_
              show VW _ _ _ _ _ _ _
              refine VW.ret ?_
              replace h := Option.some.inj h
              subst h
              exact retR [] (by kernel_rfl) rfl
            · replace h := cond_f h hb; clear hb
              refine VW.skip ?_
              show VW _ _ _ _ _ _ _
              refine VW.seq ?_
              refine VW.seq ?_
              refine VW.region ?_
              refine VO.seg T_ok .dp 4 [36, 38] [] (s' := ⟨[(36, .lf (.v (.sl (.int .i64)) a0.2.2.2.2.2.2)), (38, .lf (.v (.sl (.int .i64)) a1.2.2.2.2.2.2))], []⟩) (φ := True ∧ True ∧ True ∧ True ∧ True) (by kernel_rfl) ⟨trivial, trivial, trivial, trivial, trivial⟩ ?_
              obtain ⟨y2, hy, h⟩ := andO_some h
              refine VO.call false [.t (.sl (.int .i64)), .t (.sl (.int .i64))] [] T_ok (d := some 39) (by kernel_rfl) (ok12 N _ _ hy) rfl ?_
              refine VO.seg T_ok .dp 1 [40] [] (s' := ⟨[(40, B (!y2))], []⟩) (φ := True ∧ True) (by kernel_rfl) ⟨trivial, trivial⟩ ?_
              refine VO.nil ?_
              show VW _ _ _ _ _ _ _
              refine VW.cond (b := (!y2)) (by kernel_rfl) (fun hb => ?_) (fun hb => ?_)
              · replace h := cond_t h hb; clear hb
                refine VW.seq ?_
                refine VW.region ?_
                refine VO.seg T_ok .dp 1 [4] [] (s' := ⟨[(4, B false)], []⟩) (φ := True ∧ True) (by kernel_rfl) ⟨trivial, trivial⟩ ?_
                refine VO.nil ?_
                show VW _ _ _ _ _ _ _
                refine VW.ret ?_
                replace h := Option.some.inj h
                subst h
                exact retR [] (by kernel_rfl) rfl
              · replace h := cond_f h hb; clear hb
                refine VW.skip ?_
                show VW _ _ _ _ _ _ _
                refine VW.seq ?_
                refine VW.region ?_
                refine VO.seg T_ok .dp 1 [4] [] (s' := ⟨[(4, B true)], []⟩) (φ := True ∧ True) (by kernel_rfl) ⟨trivial, trivial⟩ ?_
                refine VO.nil ?_
                show VW _ _ _ _ _ _ _
                refine VW.ret ?_
                replace h := Option.some.inj h
                subst h
                exact retR [] (by kernel_rfl) rfl

/- loop.example/g00844/laws.eqNodeS -/
def F11_j0 (N : Nat) : Option (Bool) :=
  some true
def F11_l0_b (N : Nat) (a0 : (List (Int × (ByteArray × (Int × (Int × (Int × (Bool × (List Int))))))))) (a1 : (List (Int × (ByteArray × (Int × (Int × (Int × (Bool × (List Int))))))))) (nx35 : Int → Option (Bool)) (x28 : Int) : Option (Bool) :=
  cond (decide (x28 < (a0.length : Int))) (gd (InR x28 a0.length) (gd (InR x28 a1.length) (andO (F27 N (a0.getD x28.toNat (Ty.dflt Y40)) (a1.getD x28.toNat (Ty.dflt Y40))) fun y41 => cond (!y41) (some false) (nx35 (IntKind.i64.wrap (x28 + (1 : Int))))))) (F11_j0 N)
def F11_l0 (N : Nat) (a0 : (List (Int × (ByteArray × (Int × (Int × (Int × (Bool × (List Int))))))))) (a1 : (List (Int × (ByteArray × (Int × (Int × (Int × (Bool × (List Int))))))))) : Nat → Int → Option (Bool) := loopF (F11_l0_b N a0 a1) (fun _ => none)
theorem F11_l0_s (N : Nat) (a0 : (List (Int × (ByteArray × (Int × (Int × (Int × (Bool × (List Int))))))))) (a1 : (List (Int × (ByteArray × (Int × (Int × (Int × (Bool × (List Int))))))))) {k : Nat} (hk : 0 < k) (x28 : Int) : F11_l0 N a0 a1 k x28 = F11_l0_b N a0 a1 (F11_l0 N a0 a1 (k - 1)) x28 := by
  cases k with
  | zero => exact absurd hk (Nat.lt_irrefl 0)
  | succ m => rfl
def F11 (N : Nat) (a0 : (List (Int × (ByteArray × (Int × (Int × (Int × (Bool × (List Int))))))))) (a1 : (List (Int × (ByteArray × (Int × (Int × (Int × (Bool × (List Int))))))))) : Option (Bool) :=
  cond ((a0.length : Int) != (a1.length : Int)) (some false) (F11_l0 N a0 a1 N (0 : Int))
theorem ok11 (N : Nat) (a0 : (List (Int × (ByteArray × (Int × (Int × (Int × (Bool × (List Int))))))))) (a1 : (List (Int × (ByteArray × (Int × (Int × (Int × (Bool × (List Int))))))))) {r : Bool} (h : F11 N a0 a1 = some r) : Con Go.Proofs.Try.prog 11 [.lf (.v (.sl Y40) a0), .lf (.v (.sl Y40) a1)] [.lf (.v .bool r)] := by
  refine ⟨enters_of Go.Proofs.Try.func11 rfl (by decide), HC.intro [.lf (.v .bool)] T_ok Go.Proofs.Try.func11 rfl (Nat.le_of_ble_eq_true rfl) (Nat.le_of_ble_eq_true rfl) fun w0 E0 => ?_⟩
  unfold F11 at h
  show VW _ _ _ _ _ (retQ _ _ _ _) _
  refine VW.seq ?_
  refine VW.region ?_
  refine VO.seg T_ok .dp 1 [0, 1] [] (s' := ⟨[(0, .lf (.v (.sl Y40) a0)), (1, .lf (.v (.sl Y40) a1))], []⟩) (φ := True ∧ True) (by kernel_rfl) ⟨trivial, trivial⟩ ?_
  refine VO.nil ?_
  show VW _ _ _ _ _ _ _
  refine VW.seq ?_
  refine VW.seq ?_
  refine VW.region ?_
  refine VO.seg T_ok .dp 5 [0, 1, 10] [] (s' := ⟨[(0, .lf (.v (.sl Y40) a0)), (1, .lf (.v (.sl Y40) a1)), (10, B ((a0.length : Int) != (a1.length : Int)))], []⟩) (φ := True ∧ True ∧ True ∧ True ∧ True ∧ True) (by kernel_rfl) ⟨trivial, trivial, trivial, trivial, trivial, trivial⟩ ?_
  refine VO.nil ?_
  show VW _ _ _ _ _ _ _
  refine VW.cond (b := ((a0.length : Int) != (a1.length : Int))) (by kernel_rfl) (fun hb => ?_) (fun hb => ?_)
  · replace h := cond_t h hb; clear hb
    refine VW.seq ?_
    refine VW.region ?_
    refine VO.seg T_ok .dp 1 [4] [] (s' := ⟨[(4, B false)], []⟩) (φ := True ∧ True) (by kernel_rfl) ⟨trivial, trivial⟩ ?_
    refine VO.nil ?_
    show VW _ _ _ _ _ _ _
    refine VW.ret ?_
    replace h := Option.some.inj h
    subst h
    exact retR [] (by kernel_rfl) rfl
  · replace h := cond_f h hb; clear hb
    refine VW.skip ?_
    show VW _ _ _ _ _ _ _
    refine VW.join (fun s => s = ⟨[], []⟩ ∧ F11_j0 N = some r) ?_ ?_
    · refine VW.seq ?_
      refine VW.region ?_
      refine VO.seg T_ok .dp 1 [0, 1, 5] [] (s' := ⟨[(0, .lf (.v (.sl Y40) a0)), (1, .lf (.v (.sl Y40) a1)), (5, I (0 : Int))], []⟩) (φ := True ∧ True) (by kernel_rfl) ⟨trivial, trivial⟩ ?_
      refine VO.nil ?_
      show VW _ _ _ _ _ _ _
      refine VW.block ?_
      refine VW.loopL (fun k s => ∃ (x28 : Int), s = ⟨[(0, .lf (.v (.sl Y40) a0)), (1, .lf (.v (.sl Y40) a1)), (5, I x28)], []⟩ ∧ F11_l0 N a0 a1 k x28 = some r) N [.ren [0, 1, 5] []] (by kernel_rfl) ⟨(0 : Int), rfl, h⟩ ?_
      rintro k35 s ⟨x28, rfl, h⟩
      cases k35 with
      | zero => exact nomatch (show (none : Option (Bool)) = some r from h)
      | succ k35 =>
        replace h : F11_l0_b N a0 a1 (F11_l0 N a0 a1 k35) x28 = some r := h
        unfold F11_l0_b at h
        refine VW.seq ?_
        refine VW.seq ?_
        refine VW.region ?_
        refine VO.seg T_ok .dp 4 [0, 1, 5, 14] [] (s' := ⟨[(0, .lf (.v (.sl Y40) a0)), (1, .lf (.v (.sl Y40) a1)), (5, I x28), (14, B (decide (x28 < (a0.length : Int))))], []⟩) (φ := True ∧ True ∧ True ∧ True ∧ True) (by kernel_rfl) ⟨trivial, trivial, trivial, trivial, trivial⟩ ?_
        refine VO.nil ?_
        show VW _ _ _ _ _ _ _
        refine VW.cond (b := (decide (x28 < (a0.length : Int)))) (by kernel_rfl) (fun hb => ?_) (fun hb => ?_)
        · replace h := cond_t h hb; clear hb
          refine VW.skip ?_
          show VW _ _ _ _ _ _ _
          refine VW.seq ?_
          refine VW.block ?_
          refine VW.seq ?_
          obtain ⟨g39, h⟩ := gd_some h
          obtain ⟨g40, h⟩ := gd_some h
          obtain ⟨y41, hy41, h⟩ := andO_some h
          refine VW.drawn (by kernel_rfl) [some (17, .lf (.v (.sl Y40) a0)), some (18, I x28), some (19, .lf (.fp Y40 (a0.getD x28.toNat (Ty.dflt Y40)) 0)), some (20, .agg [.v (.int .i64) ((a0.getD x28.toNat (Ty.dflt Y40)).1), .v .str ((a0.getD x28.toNat (Ty.dflt Y40)).2.1), .v (.int .i64) ((a0.getD x28.toNat (Ty.dflt Y40)).2.2.1), .v (.int .i64) ((a0.getD x28.toNat (Ty.dflt Y40)).2.2.2.1), .v (.int .i64) ((a0.getD x28.toNat (Ty.dflt Y40)).2.2.2.2.1), .v .bool ((a0.getD x28.toNat (Ty.dflt Y40)).2.2.2.2.2.1), .v (.sl (.int .i64)) ((a0.getD x28.toNat (Ty.dflt Y40)).2.2.2.2.2.2)]), some (21, .lf (.v (.sl Y40) a1)), some (22, I x28), some (23, .lf (.fp Y40 (a1.getD x28.toNat (Ty.dflt Y40)) 0)), some (24, .agg [.v (.int .i64) ((a1.getD x28.toNat (Ty.dflt Y40)).1), .v .str ((a1.getD x28.toNat (Ty.dflt Y40)).2.1), .v (.int .i64) ((a1.getD x28.toNat (Ty.dflt Y40)).2.2.1), .v (.int .i64) ((a1.getD x28.toNat (Ty.dflt Y40)).2.2.2.1), .v (.int .i64) ((a1.getD x28.toNat (Ty.dflt Y40)).2.2.2.2.1), .v .bool ((a1.getD x28.toNat (Ty.dflt Y40)).2.2.2.2.2.1), .v (.sl (.int .i64)) ((a1.getD x28.toNat (Ty.dflt Y40)).2.2.2.2.2.2)]), some (25, B y41), some (26, B (!y41))] [] [[]] [(0, 0), (1, 0), (2, 0), (3, 0), (4, 0), (5, 0), (6, 0), (7, 0), (8, 0), (9, 0)] [0, 1, 5, 26] [] (s' := ⟨[(0, .lf (.v (.sl Y40) a0)), (1, .lf (.v (.sl Y40) a1)), (5, I x28), (26, B (!y41))], []⟩) (by kernel_rfl) (by kernel_rfl) ⟨⟨_, rfl, Stp.ev T_ok (m := .dp) (φ := True) (by kernel_rfl) trivial⟩,
    ⟨_, rfl, Stp.ev T_ok (m := .dp) (φ := True) (by kernel_rfl) trivial⟩,
    ⟨_, rfl, Stp.ev T_ok (m := .dp) (φ := InR x28 a0.length) (by kernel_rfl) g39⟩,
    ⟨_, rfl, Stp.ev T_ok (m := .dp) (φ := True) (by kernel_rfl) trivial⟩,
    ⟨_, rfl, Stp.ev T_ok (m := .dp) (φ := True) (by kernel_rfl) trivial⟩,
    ⟨_, rfl, Stp.ev T_ok (m := .dp) (φ := True) (by kernel_rfl) trivial⟩,
    ⟨_, rfl, Stp.ev T_ok (m := .dp) (φ := InR x28 a1.length) (by kernel_rfl) g40⟩,
    ⟨_, rfl, Stp.ev T_ok (m := .dp) (φ := True) (by kernel_rfl) trivial⟩,
    ⟨_, rfl, Stp.eq (Stp.call false [.t Y40, .t Y40] [] T_ok (d := some 25) (by kernel_rfl) (ok27 N _ _ hy41) rfl) (by kernel_rfl) (by kernel_rfl)⟩,
    ⟨_, rfl, Stp.ev T_ok (m := .dp) (φ := True) (by kernel_rfl) trivial⟩, trivial⟩ (by kernel_rfl) ?_
          show VW _ _ _ _ _ _ _
          refine VW.cond (b := (!y41)) (by kernel_rfl) (fun hb => ?_) (fun hb => ?_)
          · replace h := cond_t h hb; clear hb
            refine VW.seq ?_
            refine VW.region ?_
            refine VO.seg T_ok .dp 1 [4] [] (s' := ⟨[(4, B false)], []⟩) (φ := True ∧ True) (by kernel_rfl) ⟨trivial, trivial⟩ ?_
            refine VO.nil ?_
            show VW _ _ _ _ _ _ _
            refine VW.ret ?_
            replace h := Option.some.inj h
            subst h
            exact retR [] (by kernel_rfl) rfl
          · replace h := cond_f h hb; clear hb
            refine VW.skip ?_
            show VW _ _ _ _ _ _ _
            refine VW.region ?_
            refine VO.seg T_ok .dp 3 [0, 1, 5] [] (s' := ⟨[(0, .lf (.v (.sl Y40) a0)), (1, .lf (.v (.sl Y40) a1)), (5, I (IntKind.i64.wrap (x28 + (1 : Int))))], []⟩) (φ := True ∧ True ∧ True ∧ True) (by kernel_rfl) ⟨trivial, trivial, trivial, trivial⟩ ?_
            refine VO.nil ?_
            exact around [.ren [0, 1, 5] []] (by kernel_rfl) ⟨(IntKind.i64.wrap (x28 + (1 : Int))), rfl, h⟩
        · replace h := cond_f h hb; clear hb
          refine VW.exit ?_
          exact arrive [.ren [] []] (by kernel_rfl) ⟨rfl, h⟩
    · rintro s ⟨rfl, h⟩
      unfold F11_j0 at h
      refine VW.seq ?_
      refine VW.region ?_
      refine VO.seg T_ok .dp 1 [4] [] (s' := ⟨[(4, B true)], []⟩) (φ := True ∧ True) (by kernel_rfl) ⟨trivial, trivial⟩ ?_
      refine VO.nil ?_
      show VW _ _ _ _ _ _ _
      refine VW.ret ?_
      replace h := Option.some.inj h
      subst h
      exact retR [] (by kernel_rfl) rfl

/- loop.example/g00844/laws.markIntS -/
def F14_j0 (N : Nat) (x17 : Int) (x18 : (List Int)) : Option ((List Int) × Int) :=
  some (x18, x17)
def F14_l0_b (N : Nat) (nx31 : (List Int) → Int → Int → Option ((List Int) × Int)) (x24 : (List Int)) (x25 : Int) (x26 : Int) : Option ((List Int) × Int) :=
  cond (decide (x26 < (x24.length : Int))) (gd (InR x26 x24.length) (gd (x26.toNat < x24.length) (nx31 (x24.set x26.toNat x25) (IntKind.i64.wrap (x25 + (1 : Int))) (IntKind.i64.wrap (x26 + (1 : Int)))))) (F14_j0 N x25 x24)
def F14_l0 (N : Nat) : Nat → (List Int) → Int → Int → Option ((List Int) × Int) := loopF (F14_l0_b N) (fun _ _ _ => none)
theorem F14_l0_s (N : Nat) {k : Nat} (hk : 0 < k) (x24 : (List Int)) (x25 : Int) (x26 : Int) : F14_l0 N k x24 x25 x26 = F14_l0_b N (F14_l0 N (k - 1)) x24 x25 x26 := by
  cases k with
  | zero => exact absurd hk (Nat.lt_irrefl 0)
  | succ m => rfl
def F14 (N : Nat) (a0 : (List Int)) (a1 : Int) : Option ((List Int) × Int) :=
  F14_l0 N N a0 a1 (0 : Int)
theorem ok14 (N : Nat) (a0 : (List Int)) (a1 : Int) {r : (List Int) × Int} (h : F14 N a0 a1 = some r) : ConM Go.Proofs.Try.prog 14 [ar 0 (.int .i64) a0 .dp] [.lf (.hd 0 0 none), I a1] [.lf (.v (.int .i64) r.2)] [ar 0 (.int .i64) r.1 .dp] := by
  refine ⟨enters_of Go.Proofs.Try.func14 rfl (by decide), HM.intro [.lf (.v (.int .i64))] T_ok Go.Proofs.Try.func14 rfl (Nat.le_of_ble_eq_true rfl) (Nat.le_of_ble_eq_true rfl) fun w0 E0 => ?_⟩
  unfold F14 at h
  show VW _ _ _ _ _ (retM _ _ _ _ _) _
  refine VW.seq ?_
  refine VW.region ?_
  refine VO.seg T_ok .dp 1 [0, 1, 65536] [0] (s' := ⟨[(0, .lf (.hd 0 0 none)), (1, I a1), (65536, .lf (.hd 0 0 none))], [ar 0 (.int .i64) a0 .dp]⟩) (φ := True ∧ True) (by kernel_rfl) ⟨trivial, trivial⟩ ?_
  refine VO.nil ?_
  show VW _ _ _ _ _ _ _
  refine VW.join (fun s => ∃ (x17 : Int) (x18 : (List Int)), s = ⟨[(1, I x17), (65536, .lf (.hd 0 0 none))], [ar 0 (.int .i64) x18 .dp]⟩ ∧ F14_j0 N x17 x18 = some r) ?_ ?_
  · refine VW.seq ?_
    refine VW.region ?_
    refine VO.seg T_ok .dp 1 [0, 1, 5, 65536] [0] (s' := ⟨[(0, .lf (.hd 0 0 none)), (1, I a1), (5, I (0 : Int)), (65536, .lf (.hd 0 0 none))], [ar 0 (.int .i64) a0 .dp]⟩) (φ := True ∧ True) (by kernel_rfl) ⟨trivial, trivial⟩ ?_
    refine VO.nil ?_
    show VW _ _ _ _ _ _ _
    refine VW.block ?_
    refine VW.loopL (fun k s => ∃ (x24 : (List Int)) (x25 : Int) (x26 : Int), s = ⟨[(0, .lf (.hd 0 0 none)), (1, I x25), (5, I x26), (65536, .lf (.hd 0 0 none))], [ar 0 (.int .i64) x24 .dp]⟩ ∧ F14_l0 N k x24 x25 x26 = some r) N [.ren [0, 1, 5, 65536] [0]] (by kernel_rfl) ⟨a0, a1, (0 : Int), rfl, h⟩ ?_
    rintro k31 s ⟨x24, x25, x26, rfl, h⟩
    cases k31 with
    | zero => exact nomatch (show (none : Option ((List Int) × Int)) = some r from h)
    | succ k31 =>
      replace h : F14_l0_b N (F14_l0 N k31) x24 x25 x26 = some r := h
      unfold F14_l0_b at h
      refine VW.seq ?_
      refine VW.seq ?_
      refine VW.region ?_
      refine VO.seg T_ok .dp 4 [0, 1, 5, 9, 65536] [0] (s' := ⟨[(0, .lf (.hd 0 0 none)), (1, I x25), (5, I x26), (9, B (decide (x26 < (x24.length : Int)))), (65536, .lf (.hd 0 0 none))], [ar 0 (.int .i64) x24 .dp]⟩) (φ := True ∧ True ∧ True ∧ True ∧ True) (by kernel_rfl) ⟨trivial, trivial, trivial, trivial, trivial⟩ ?_
      refine VO.nil ?_
      show VW _ _ _ _ _ _ _
      refine VW.cond (b := (decide (x26 < (x24.length : Int)))) (by kernel_rfl) (fun hb => ?_) (fun hb => ?_)
      · replace h := cond_t h hb; clear hb
        refine VW.skip ?_
        show VW _ _ _ _ _ _ _
        refine VW.seq ?_
        refine VW.block ?_
        refine VW.seq ?_
        refine VW.region ?_
        obtain ⟨g34, h⟩ := gd_some h
        obtain ⟨g35, h⟩ := gd_some h
        refine VO.seg T_ok .dp 5 [0, 1, 5, 65536] [0] (s' := ⟨[(0, .lf (.hd 0 0 none)), (1, I x25), (5, I x26), (65536, .lf (.hd 0 0 none))], [ar 0 (.int .i64) (x24.set x26.toNat x25) .dp]⟩) (φ := True ∧ True ∧ True ∧ (InR x26 x24.length) ∧ (x26.toNat < x24.length) ∧ True) (by kernel_rfl) ⟨trivial, trivial, trivial, g34, g35, trivial⟩ ?_
        refine VO.nil ?_
        show VW _ _ _ _ _ _ _
        refine VW.region ?_
        refine VO.seg T_ok .dp 3 [0, 1, 5, 65536] [0] (s' := ⟨[(0, .lf (.hd 0 0 none)), (1, I (IntKind.i64.wrap (x25 + (1 : Int)))), (5, I x26), (65536, .lf (.hd 0 0 none))], [ar 0 (.int .i64) (x24.set x26.toNat x25) .dp]⟩) (φ := True ∧ True ∧ True ∧ True) (by kernel_rfl) ⟨trivial, trivial, trivial, trivial⟩ ?_
        refine VO.nil ?_
        show VW _ _ _ _ _ _ _
        refine VW.region ?_
        refine VO.seg T_ok .dp 3 [0, 1, 5, 65536] [0] (s' := ⟨[(0, .lf (.hd 0 0 none)), (1, I (IntKind.i64.wrap (x25 + (1 : Int)))), (5, I (IntKind.i64.wrap (x26 + (1 : Int)))), (65536, .lf (.hd 0 0 none))], [ar 0 (.int .i64) (x24.set x26.toNat x25) .dp]⟩) (φ := True ∧ True ∧ True ∧ True) (by kernel_rfl) ⟨trivial, trivial, trivial, trivial⟩ ?_
        refine VO.nil ?_
        exact around [.ren [0, 1, 5, 65536] [0]] (by kernel_rfl) ⟨(x24.set x26.toNat x25), (IntKind.i64.wrap (x25 + (1 : Int))), (IntKind.i64.wrap (x26 + (1 : Int))), rfl, h⟩
      · replace h := cond_f h hb; clear hb
        refine VW.exit ?_
        exact arrive [.ren [1, 65536] [0]] (by kernel_rfl) ⟨x25, x24, rfl, h⟩
  · rintro s ⟨x17, x18, rfl, h⟩
    unfold F14_j0 at h
    refine VW.seq ?_
    refine VW.region ?_
    refine VO.seg T_ok .dp 2 [4, 65536] [0] (s' := ⟨[(4, I x17), (65536, .lf (.hd 0 0 none))], [ar 0 (.int .i64) x18 .dp]⟩) (φ := True ∧ True ∧ True) (by kernel_rfl) ⟨trivial, trivial, trivial⟩ ?_
    refine VO.nil ?_
    show VW _ _ _ _ _ _ _
    replace h := Option.some.inj h
    subst h
    refine VW.ghl [.ren [4, 65536] [0]] (VW.ret ?_)
    exact ⟨[], by kernel_rfl, by kernel_rfl, by kernel_rfl⟩

/- loop.example/g00844/laws.markText -/
def F28_j0 (N : Nat) (x7 : ByteArray) : Option (ByteArray) :=
  gd ((⟨#[109]⟩ : ByteArray).size + x7.size ≤ 9223372036854775807) (some ((⟨#[109]⟩ : ByteArray) ++ x7))
def F28_l0_b (N : Nat) (nx14 : Int → ByteArray → Option (ByteArray)) (x11 : Int) (x12 : ByteArray) : Option (ByteArray) :=
  cond (decide (x11 > (0 : Int))) (gd ((strOfNums ([(IntKind.u8.wrap (IntKind.i64.wrap ((48 : Int) + (Int.tmod x11 (10 : Int)))))])).size + x12.size ≤ 9223372036854775807) (nx14 (IntKind.i64.wrap (Int.tdiv x11 (10 : Int))) ((strOfNums ([(IntKind.u8.wrap (IntKind.i64.wrap ((48 : Int) + (Int.tmod x11 (10 : Int)))))])) ++ x12))) (F28_j0 N x12)
def F28_l0 (N : Nat) : Nat → Int → ByteArray → Option (ByteArray) := loopF (F28_l0_b N) (fun _ _ => none)
theorem F28_l0_s (N : Nat) {k : Nat} (hk : 0 < k) (x11 : Int) (x12 : ByteArray) : F28_l0 N k x11 x12 = F28_l0_b N (F28_l0 N (k - 1)) x11 x12 := by
  cases k with
  | zero => exact absurd hk (Nat.lt_irrefl 0)
  | succ m => rfl
def F28 (N : Nat) (a0 : Int) : Option (ByteArray) :=
  cond (decide (a0 ≤ (0 : Int))) (some (⟨#[109, 48]⟩ : ByteArray)) (F28_l0 N N a0 ByteArray.empty)
theorem ok28 (N : Nat) (a0 : Int) {r : ByteArray} (h : F28 N a0 = some r) : Con Go.Proofs.Try.prog 28 [I a0] [.lf (.v .str r)] := by
  refine ⟨enters_of Go.Proofs.Try.func28 rfl (by decide), HC.intro [.lf (.v .str)] T_ok Go.Proofs.Try.func28 rfl (Nat.le_of_ble_eq_true rfl) (Nat.le_of_ble_eq_true rfl) fun w0 E0 => ?_⟩
  unfold F28 at h
  show VW _ _ _ _ _ (retQ _ _ _ _) _
  refine VW.seq ?_
  refine VW.region ?_
  refine VO.seg T_ok .dp 1 [0] [] (s' := ⟨[(0, I a0)], []⟩) (φ := True ∧ True) (by kernel_rfl) ⟨trivial, trivial⟩ ?_
  refine VO.nil ?_
  show VW _ _ _ _ _ _ _
  refine VW.seq ?_
  refine VW.seq ?_
  refine VW.region ?_
  refine VO.seg T_ok .dp 2 [0, 5] [] (s' := ⟨[(0, I a0), (5, B (decide (a0 ≤ (0 : Int))))], []⟩) (φ := True ∧ True ∧ True) (by kernel_rfl) ⟨trivial, trivial, trivial⟩ ?_
  refine VO.nil ?_
  show VW _ _ _ _ _ _ _
  refine VW.cond (b := (decide (a0 ≤ (0 : Int)))) (by kernel_rfl) (fun hb => ?_) (fun hb => ?_)
  · replace h := cond_t h hb; clear hb
    refine VW.seq ?_
    refine VW.region ?_
    refine VO.seg T_ok .dp 1 [2] [] (s' := ⟨[(2, S (⟨#[109, 48]⟩ : ByteArray))], []⟩) (φ := True ∧ True) (by kernel_rfl) ⟨trivial, trivial⟩ ?_
    refine VO.nil ?_
    show VW _ _ _ _ _ _ _
    refine VW.ret ?_
    replace h := Option.some.inj h
    subst h
    exact retR [] (by kernel_rfl) rfl
  · replace h := cond_f h hb; clear hb
    refine VW.skip ?_
    show VW _ _ _ _ _ _ _
    refine VW.seq ?_
    refine VW.region ?_
    refine VO.seg T_ok .dp 1 [0, 3] [] (s' := ⟨[(0, I a0), (3, S ByteArray.empty)], []⟩) (φ := True ∧ True) (by kernel_rfl) ⟨trivial, trivial⟩ ?_
    refine VO.nil ?_
    show VW _ _ _ _ _ _ _
    refine VW.join (fun s => ∃ (x7 : ByteArray), s = ⟨[(3, S x7)], []⟩ ∧ F28_j0 N x7 = some r) ?_ ?_
    · refine VW.block ?_
      refine VW.loopL (fun k s => ∃ (x11 : Int) (x12 : ByteArray), s = ⟨[(0, I x11), (3, S x12)], []⟩ ∧ F28_l0 N k x11 x12 = some r) N [.ren [0, 3] []] (by kernel_rfl) ⟨a0, ByteArray.empty, rfl, h⟩ ?_
      rintro k14 s ⟨x11, x12, rfl, h⟩
      cases k14 with
      | zero => exact nomatch (show (none : Option (ByteArray)) = some r from h)
      | succ k14 =>
        replace h : F28_l0_b N (F28_l0 N k14) x11 x12 = some r := h
        unfold F28_l0_b at h
        refine VW.seq ?_
        refine VW.seq ?_
        refine VW.region ?_
        refine VO.seg T_ok .dp 2 [0, 3, 7] [] (s' := ⟨[(0, I x11), (3, S x12), (7, B (decide (x11 > (0 : Int))))], []⟩) (φ := True ∧ True ∧ True) (by kernel_rfl) ⟨trivial, trivial, trivial⟩ ?_
        refine VO.nil ?_
        show VW _ _ _ _ _ _ _
        refine VW.cond (b := (decide (x11 > (0 : Int)))) (by kernel_rfl) (fun hb => ?_) (fun hb => ?_)
        · replace h := cond_t h hb; clear hb
          refine VW.skip ?_
          show VW _ _ _ _ _ _ _
          refine VW.block ?_
          refine VW.seq ?_
          refine VW.region ?_
          obtain ⟨g15, h⟩ := gd_some h
          refine VO.seg T_ok .dp 9 [0, 3] [] (s' := ⟨[(0, I x11), (3, S ((strOfNums ([(IntKind.u8.wrap (IntKind.i64.wrap ((48 : Int) + (Int.tmod x11 (10 : Int)))))])) ++ x12))], []⟩) (φ := True ∧ ((10 : Int) ≠ 0) ∧ True ∧ True ∧ True ∧ True ∧ True ∧ ((strOfNums ([(IntKind.u8.wrap (IntKind.i64.wrap ((48 : Int) + (Int.tmod x11 (10 : Int)))))])).size + x12.size ≤ 9223372036854775807) ∧ True ∧ True) (by kernel_rfl) ⟨trivial, (by decide), trivial, trivial, trivial, trivial, trivial, g15, trivial, trivial⟩ ?_
          refine VO.nil ?_
          show VW _ _ _ _ _ _ _
          refine VW.region ?_
          refine VO.seg T_ok .dp 3 [0, 3] [] (s' := ⟨[(0, I (IntKind.i64.wrap (Int.tdiv x11 (10 : Int)))), (3, S ((strOfNums ([(IntKind.u8.wrap (IntKind.i64.wrap ((48 : Int) + (Int.tmod x11 (10 : Int)))))])) ++ x12))], []⟩) (φ := True ∧ ((10 : Int) ≠ 0) ∧ True ∧ True) (by kernel_rfl) ⟨trivial, (by decide), trivial, trivial⟩ ?_
          refine VO.nil ?_
          exact around [.ren [0, 3] []] (by kernel_rfl) ⟨(IntKind.i64.wrap (Int.tdiv x11 (10 : Int))), ((strOfNums ([(IntKind.u8.wrap (IntKind.i64.wrap ((48 : Int) + (Int.tmod x11 (10 : Int)))))])) ++ x12), rfl, h⟩
        · replace h := cond_f h hb; clear hb
          refine VW.exit ?_
          exact arrive [.ren [3] []] (by kernel_rfl) ⟨x12, rfl, h⟩
    · rintro s ⟨x7, rfl, h⟩
      unfold F28_j0 at h
      refine VW.seq ?_
      refine VW.region ?_
      obtain ⟨g8, h⟩ := gd_some h
      refine VO.seg T_ok .dp 3 [2] [] (s' := ⟨[(2, S ((⟨#[109]⟩ : ByteArray) ++ x7))], []⟩) (φ := True ∧ ((⟨#[109]⟩ : ByteArray).size + x7.size ≤ 9223372036854775807) ∧ True ∧ True) (by kernel_rfl) ⟨trivial, g8, trivial, trivial⟩ ?_
      refine VO.nil ?_
      show VW _ _ _ _ _ _ _
      refine VW.ret ?_
      replace h := Option.some.inj h
      subst h
      exact retR [] (by kernel_rfl) rfl

end Go.Proofs.Ytckcbjaldmlomaa.Vc
