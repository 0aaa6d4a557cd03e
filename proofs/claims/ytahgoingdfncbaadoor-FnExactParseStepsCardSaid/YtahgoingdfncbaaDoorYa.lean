/- What functions of the program compute, and that they do. -/
import Derived.Test.YtahgoingdfncbaaDoorXb
import Derived.Test.YtahgoingdfncbaaDoorProg
import Derived.Test.YtahgoingdfncbaaDoorShelf
namespace Go.Proofs.YtahgoingdfncbaaDoor.Vc
open Go Go.RowKit Go.Proofs.Tryd
set_option linter.unusedVariables false
set_option maxRecDepth 100000
set_option maxHeartbeats 4000000
abbrev Y7 : Ty := .pair (.int .i64) (.pair (.int .i64) (.pair .bool (.int .u8)))
abbrev Y13 : Ty := .pair .str (.int .u64)
abbrev Y32 : Ty := .pair (.int .i64) (.int .i64)
abbrev Z32 := (Int × Int)
abbrev Y74 : Ty := .pair (.int .u8) (.int .u8)
abbrev D32 : (Y32).den := Ty.dflt Y32
def TL : List (Nat × TI) := [(2, { ty := (.int .i64) }),
  (3, { ty := (.int .i64) }),
  (4, { ty := .bool }),
  (5, { ty := (.int .u8) }),
  (6, { ty := (.int .u8) }),
  (7, { ty := Y7, offs := [0, 1, 2, 3], szs := [1, 1, 1, 1] }),
  (8, { ty := Y7, offs := [0, 1, 2, 3], szs := [1, 1, 1, 1] }),
  (9, { ty := .str }),
  (10, { ty := .str }),
  (11, { ty := .str }),
  (12, { ty := (.int .u64) }),
  (13, { ty := Y13, offs := [0, 1], szs := [1, 1] }),
  (14, { ty := Y13, offs := [0, 1], szs := [1, 1] }),
  (21, { ty := (.int .i32) }),
  (22, { ty := (.sl Y32), elem := 33 }),
  (28, { ty := (.sl .str), elem := 9 }),
  (32, { ty := Y32, offs := [0, 1], szs := [1, 1] }),
  (33, { ty := Y32, offs := [0, 1], szs := [1, 1] }),
  (46, { ty := (.sl (.int .u8)), elem := 5 }),
  (55, { ty := (.int .u64) }),
  (56, { ty := (.int .i64) }),
  (62, { ty := (.int .u32) }),
  (65, { ty := (.int .u64) }),
  (74, { ty := Y74, offs := [0, 1], szs := [1, 1] }),
  (75, { ty := Y74, offs := [0, 1], szs := [1, 1] }),
  (101, { ty := (.int .u8) }),
  (102, { ty := (.int .u8) }),
  (104, { ty := (.int .i32) }),
  (105, { ty := (.int .i32) })]
abbrev T : Tab := lookT TL
theorem T_ok : TabOk Go.Proofs.Tryd.prog T := tabOk_of TL (by kernel_rfl)
theorem K : TabOk Go.Proofs.Tryd.prog T := T_ok
theorem T_rec : RecOk Go.Proofs.Tryd.prog T := recOk_of TL (by kernel_rfl)
def F9_j0 (N : Nat) (x44 : (List ByteArray)) : Option ((List ByteArray)) :=
  some x44
def F9_j1 (N : Nat) (nx75 : (List ByteArray) → Int → Int → Option ((List ByteArray))) (x61 : Int) (x81 : (List ByteArray)) (x82 : Int) : Option ((List ByteArray)) :=
  nx75 x81 x82 (IntKind.i64.wrap (x61 + (1 : Int)))
def F9_l0_b (N : Nat) (a0 : ByteArray) (a1 : Int) (nx75 : (List ByteArray) → Int → Int → Option ((List ByteArray))) (x59 : (List ByteArray)) (x60 : Int) (x61 : Int) : Option ((List ByteArray)) :=
  cond (decide (x61 ≤ (a0.size : Int))) (cond (x61 == (a0.size : Int)) (gd (0 ≤ x60 ∧ x60 ≤ x61 ∧ x61 ≤ (a0.size : Int)) (gd (x59.length + ([(a0.extract x60.toNat x61.toNat)]).length ≤ lim .str) (F9_j1 N nx75 x61 (x59 ++ ([(a0.extract x60.toNat x61.toNat)])) (IntKind.i64.wrap (x61 + (1 : Int)))))) (gd (InR x61 a0.size) (cond (((a0.data.getD x61.toNat 0).toNat : Int) == a1) (gd (0 ≤ x60 ∧ x60 ≤ x61 ∧ x61 ≤ (a0.size : Int)) (gd (x59.length + ([(a0.extract x60.toNat x61.toNat)]).length ≤ lim .str) (F9_j1 N nx75 x61 (x59 ++ ([(a0.extract x60.toNat x61.toNat)])) (IntKind.i64.wrap (x61 + (1 : Int)))))) (F9_j1 N nx75 x61 x59 x60)))) (F9_j0 N x59)
def F9_l0 (N : Nat) (a0 : ByteArray) (a1 : Int) := loopF (F9_l0_b N a0 a1) (fun _ _ _ => none)
theorem F9_l0_s N a0 a1 {k} (hk : 0 < k) x59 x60 x61 : F9_l0 N a0 a1 k x59 x60 x61 = F9_l0_b N a0 a1 (F9_l0 N a0 a1 (k - 1)) x59 x60 x61 := by cases k;cases hk;rfl
def F9 (N : Nat) (a0 : ByteArray) (a1 : Int) : Option ((List ByteArray)) :=
  F9_l0 N a0 a1 N ([]) (0 : Int) (0 : Int)
theorem ok9 N a0 a1 {r} (h : F9 N a0 a1 = some r) : Con prog 9 [S a0, U a1] [.lf (.own .str r .dp)] := by
 refine ctr [.lf (.own .str .dp)] K func9 rfl fun w0 E0 ht => ?_
 unfold F9 at h
 show VW _ _ _ _ _ (retQ _ _ _ _) _
 refine nR K (tn 1) <| nR K (tn 2) <| nR K (tn 1) ?_
 refine VW.join (fun s => ∃ x44, s = ⟨[(5, hh 0)], [ar 0 .str x44 .dp]⟩ ∧ F9_j0 N x44 = some r) ?_ ?_
 ·refine nR K (tn 1) <| VW.block <| lop (fun k s => ∃ x59 x60 x61, s = ⟨[(0, S a0), (1, U a1), (5, hh 0), (6, I x60), (7, I x61)], [ar 0 .str x59 .dp]⟩ ∧ F9_l0 N a0 a1 k x59 x60 x61 = some r) N [.nilS 5 .str .dp, .ren [0, 1, 5, 6, 7] [0]] ⟨[], (0 : Int), (0 : Int), rfl, h⟩ ?_
  rintro k75 s ⟨x59, x60, x61, rfl, h⟩
  cases k75 with
  | zero => cases show none = some r from h
  | succ k75 =>
   replace h : F9_l0_b N a0 a1 (F9_l0 N a0 a1 k75) x59 x60 x61 = some r := h
   unfold F9_l0_b at h
   refine sq <| nR K (tn 4) ?_
   refine cnd h ?_ ?_<;>intro h
   ·refine VW.skip ?_
    refine VW.join (fun s => ∃ x81 x82, s = ⟨[(0, S a0), (1, U a1), (5, hh 0), (6, I x82), (7, I x61)], [ar 0 .str x81 .dp]⟩ ∧ F9_j1 N (F9_l0 N a0 a1 k75) x61 x81 x82 = some r) ?_ ?_
    ·refine VW.block <| sq <| VW.region <| nG K 5 (tn 5) ?_
     refine spC 19 h ?_ ?_<;>intro h
     ·refine nN K (tn 6) ?_
      refine VW.cond (b := true) (by kernel_rfl) (fun _ => ?_) (fun h' => nomatch h')
      obtain⟨g84,h⟩:=gS h
      obtain⟨g85,h⟩:=gS h
      refine nR K (pu 4 (an g84 (pu 1 (an g85 (tn 1))))) <| nE K (tn 3) ?_
      exact arv [.ren [0, 1, 5, 6, 7] [0]] ⟨(x59 ++ ([(a0.extract x60.toNat x61.toNat)])), (wr (x61 + (1 : Int))), rfl, h⟩
     obtain⟨g86,h⟩:=gS h
     refine nN K (pu 2 (an g86 (tn 3))) ?_
     refine cnd h ?_ ?_<;>intro h
     ·obtain⟨g87,h⟩:=gS h
      obtain⟨g88,h⟩:=gS h
      refine nR K (pu 4 (an g87 (pu 1 (an g88 (tn 1))))) <| nE K (tn 3) ?_
      exact arv [.ren [0, 1, 5, 6, 7] [0]] ⟨(x59 ++ ([(a0.extract x60.toNat x61.toNat)])), (wr (x61 + (1 : Int))), rfl, h⟩
     refine VW.skip ?_
     exact arv [.ren [0, 1, 5, 6, 7] [0]] ⟨x59, x60, rfl, h⟩
    rintro s ⟨x81, x82, rfl, h⟩
    unfold F9_j1 at h
    refine nE K (tn 3) ?_
    exact aro [.ren [0, 1, 5, 6, 7] [0]] ⟨x81, x82, (wr (x61 + (1 : Int))), rfl, h⟩
   refine VW.exit ?_
   exact arv [.ren [5] [0]] ⟨x59, rfl, h⟩
 rintro s ⟨x44, rfl, h⟩
 unfold F9_j0 at h
 refine nR K (tn 2) ?_
 cases h; exact VW.ret (rt [some 0])
def F15 (N : Nat) (a0 : Int) (a1 : Int) (a2 : Int) : Option (Bool) :=
  cond (decide (a1 ≤ a0)) (some (decide (a0 ≤ a2))) (some false)
theorem ok15 N a0 a1 a2 {r} (h : F15 N a0 a1 a2 = some r) : Con prog 15 [I a0, I a1, I a2] [.lf (.v .bool r)] := by
 refine ctr [.lf (.v .bool)] K func15 rfl fun w0 E0 ht => ?_
 unfold F15 at h
 show VW _ _ _ _ _ (retQ _ _ _ _) _
 refine nR K (tn 1) <| sq <| VW.region <| nG K 4 (tn 4) ?_
 refine spC 10 h ?_ ?_<;>intro h
 ·refine nN K (tn 5) ?_
  cases h; exact VW.ret (rt [])
 refine nN K (tn 5) ?_
 cases h; exact VW.ret (rt [])
def F16_j0 (N : Nat) (x15 : ByteArray) (x16 : Bool) : Option (ByteArray) :=
  cond x16 (gd ((⟨#[45]⟩ : ByteArray).size + x15.size ≤ 9223372036854775807) (some ((⟨#[45]⟩ : ByteArray) ++ x15))) (some x15)
def F16_j1 (N : Nat) (nx30 : Int → ByteArray → Bool → Option (ByteArray)) (x24 : Int) (x25 : ByteArray) (x26 : Bool) (x31 : Int) : Option (ByteArray) :=
  gd ((strOfNums ([(IntKind.u8.wrap (IntKind.i64.wrap ((48 : Int) + x31)))])).size + x25.size ≤ 9223372036854775807) (nx30 (IntKind.i64.wrap (Int.tdiv x24 (10 : Int))) ((strOfNums ([(IntKind.u8.wrap (IntKind.i64.wrap ((48 : Int) + x31)))])) ++ x25) x26)
def F16_l0_b (N : Nat) (nx30 : Int → ByteArray → Bool → Option (ByteArray)) (x24 : Int) (x25 : ByteArray) (x26 : Bool) : Option (ByteArray) :=
  cond (x24 != (0 : Int)) (cond (decide ((Int.tmod x24 (10 : Int)) < (0 : Int))) (F16_j1 N nx30 x24 x25 x26 (IntKind.i64.wrap ((0 : Int) - (Int.tmod x24 (10 : Int))))) (F16_j1 N nx30 x24 x25 x26 (Int.tmod x24 (10 : Int)))) (F16_j0 N x25 x26)
def F16_l0 (N : Nat) := loopF (F16_l0_b N) (fun _ _ _ => none)
theorem F16_l0_s N {k} (hk : 0 < k) x24 x25 x26 : F16_l0 N k x24 x25 x26 = F16_l0_b N (F16_l0 N (k - 1)) x24 x25 x26 := by cases k;cases hk;rfl
def F16 (N : Nat) (a0 : Int) : Option (ByteArray) :=
  cond (a0 == (0 : Int)) (some (⟨#[48]⟩ : ByteArray)) (F16_l0 N N a0 ByteArray.empty (decide (a0 < (0 : Int))))
theorem ok16 N a0 {r} (h : F16 N a0 = some r) : Con prog 16 [I a0] [.lf (.v .str r)] := by
 refine ctr [.lf (.v .str)] K func16 rfl fun w0 E0 ht => ?_
 unfold F16 at h
 show VW _ _ _ _ _ (retQ _ _ _ _) _
 refine nR K (tn 1) <| sq <| nR K (tn 2) ?_
 refine cnd h ?_ ?_<;>intro h
 ·refine nR K (tn 1) ?_
  cases h; exact VW.ret (rt [])
 refine VW.skip <| nR K (tn 1) <| nR K (tn 3) ?_
 refine VW.join (fun s => ∃ x15 x16, s = ⟨[(3, S x15), (4, B x16)], []⟩ ∧ F16_j0 N x15 x16 = some r) ?_ ?_
 ·refine VW.block <| lop (fun k s => ∃ x24 x25 x26, s = ⟨[(0, I x24), (3, S x25), (4, B x26)], []⟩ ∧ F16_l0 N k x24 x25 x26 = some r) N [.ren [0, 3, 4] []] ⟨a0, ByteArray.empty, (decide (a0 < (0 : Int))), rfl, h⟩ ?_
  rintro k30 s ⟨x24, x25, x26, rfl, h⟩
  cases k30 with
  | zero => cases show none = some r from h
  | succ k30 =>
   replace h : F16_l0_b N (F16_l0 N k30) x24 x25 x26 = some r := h
   unfold F16_l0_b at h
   refine sq <| nR K (tn 2) ?_
   refine cnd h ?_ ?_<;>intro h
   ·refine VW.skip <| VW.block <| nR K (pu 1 (an (show ((10 : Int) ≠ 0) from by decide) (tn 1))) ?_
    refine VW.join (fun s => ∃ x31, s = ⟨[(0, I x24), (3, S x25), (4, B x26), (5, I x31)], []⟩ ∧ F16_j1 N (F16_l0 N k30) x24 x25 x26 x31 = some r) ?_ ?_
    ·refine nR K (tn 2) ?_
     refine cnd h ?_ ?_<;>intro h
     ·refine nE K (tn 3) ?_
      exact arv [.ren [0, 3, 4, 5] []] ⟨(wr ((0 : Int) - (Int.tmod x24 (10 : Int)))), rfl, h⟩
     refine VW.skip ?_
     exact arv [.ren [0, 3, 4, 5] []] ⟨(Int.tmod x24 (10 : Int)), rfl, h⟩
    rintro s ⟨x31, rfl, h⟩
    unfold F16_j1 at h
    obtain⟨g32,h⟩:=gS h
    refine nR K (pu 6 (an g32 (tn 1))) <| nE K (pu 1 (an (show ((10 : Int) ≠ 0) from by decide) (tn 1))) ?_
    exact aro [.ren [0, 3, 4] []] ⟨(wr (Int.tdiv x24 (10 : Int))), ((strOfNums ([(IntKind.u8.wrap (wr ((48 : Int) + x31)))])) ++ x25), x26, rfl, h⟩
   refine VW.exit ?_
   exact arv [.ren [3, 4] []] ⟨x25, x26, rfl, h⟩
 rintro s ⟨x15, x16, rfl, h⟩
 unfold F16_j0 at h
 refine sq <| nR K (tn 1) ?_
 refine cnd h ?_ ?_<;>intro h
 ·obtain⟨g18,h⟩:=gS h
  refine nR K (pu 1 (an g18 (tn 1))) ?_
  cases h; exact VW.ret (rt [])
 refine VW.skip <| nR K (tn 2) ?_
 cases h; exact VW.ret (rt [])
def F17 (N : Nat) (a0 : Int) : Option (Bool) :=
  andO (F15 N a0 (-1000000 : Int) (1000000 : Int)) fun y1 => some y1
theorem ok17 N a0 {r} (h : F17 N a0 = some r) : Con prog 17 [I a0] [.lf (.v .bool r)] := by
 refine ctr [.lf (.v .bool)] K func17 rfl fun w0 E0 ht => ?_
 unfold F17 at h
 show VW _ _ _ _ _ (retQ _ _ _ _) _
 refine nR K (tn 1) <| sq <| VW.region <| nG K 1 (tn 1) ?_
 obtain⟨y1,hy,h⟩:=aS h
 refine clc false [.t (.int .i64), .t (.int .i64), .t (.int .i64)] [] (some 4) K (ok15 N _ _ _ hy) <| nN K (tn 1) ?_
 cases h; exact VW.ret (rt [])
def F10_j0 (N : Nat) (a0 : ByteArray) (x40 : Int) : Option (Int × Bool) :=
  andO (F16 N x40) fun y41 => cond (y41.toList == a0.toList) (andO (F17 N x40) fun y42 => some (x40, y42)) (some (x40, false))
def F10_j1 (N : Nat) (a0 : ByteArray) (x3 : ByteArray) (x39 : Int) : Option (Int × Bool) :=
  cond (decide ((x3.size : Int) < (a0.size : Int))) (F10_j0 N a0 (IntKind.i64.wrap ((0 : Int) - x39))) (F10_j0 N a0 x39)
def F10_l0_b (N : Nat) (a0 : ByteArray) (x3 : ByteArray) (nx67 : Int → Int → Option (Int × Bool)) (x55 : Int) (x56 : Int) : Option (Int × Bool) :=
  cond (decide (x56 < (x3.size : Int))) (gd (InR x56 x3.size) (cond (decide (((x3.data.getD x56.toNat 0).toNat : Int) < (48 : Int))) (some ((0 : Int), false)) (gd (InR x56 x3.size) (cond (decide (((x3.data.getD x56.toNat 0).toNat : Int) > (57 : Int))) (some ((0 : Int), false)) (gd (InR x56 x3.size) (nx67 (IntKind.i64.wrap ((IntKind.i64.wrap ((IntKind.i64.wrap ((10 : Int) * x55)) + (IntKind.i64.wrap ((x3.data.getD x56.toNat 0).toNat : Int)))) - (48 : Int))) (IntKind.i64.wrap (x56 + (1 : Int))))))))) (F10_j1 N a0 x3 x55)
def F10_l0 (N : Nat) (a0 : ByteArray) (x3 : ByteArray) := loopF (F10_l0_b N a0 x3) (fun _ _ => none)
theorem F10_l0_s N a0 x3 {k} (hk : 0 < k) x55 x56 : F10_l0 N a0 x3 k x55 x56 = F10_l0_b N a0 x3 (F10_l0 N a0 x3 (k - 1)) x55 x56 := by cases k;cases hk;rfl
def F10_j2 (N : Nat) (a0 : ByteArray) (x3 : ByteArray) : Option (Int × Bool) :=
  andO (F15 N (x3.size : Int) (1 : Int) (7 : Int)) fun y5 => cond (!y5) (some ((0 : Int), false)) (F10_l0 N a0 x3 N (0 : Int) (0 : Int))
def F10 (N : Nat) (a0 : ByteArray) : Option (Int × Bool) :=
  cond (decide ((a0.size : Int) > (0 : Int))) (gd (InR (0 : Int) a0.size) (cond (((a0.data.getD (0 : Int).toNat 0).toNat : Int) == (45 : Int)) (gd (0 ≤ (1 : Int) ∧ (1 : Int) ≤ (a0.size : Int)) (F10_j2 N a0 (a0.extract (1 : Int).toNat a0.size))) (F10_j2 N a0 a0))) (F10_j2 N a0 a0)
theorem ok10 N a0 {r} (h : F10 N a0 = some r) : Con prog 10 [S a0] [.lf (.v (.int .i64) r.1), .lf (.v .bool r.2)] := by
 refine ctr [.lf (.v (.int .i64)), .lf (.v .bool)] K func10 rfl fun w0 E0 ht => ?_
 unfold F10 at h
 show VW _ _ _ _ _ (retQ _ _ _ _) _
 refine nR K (tn 2) <| nR K (tn 2) ?_
 refine VW.join (fun s => ∃ x3, s = ⟨[(0, S a0), (4, S x3)], []⟩ ∧ F10_j2 N a0 x3 = some r) ?_ ?_
 ·refine sq <| VW.region <| nG K 4 (tn 4) ?_
  refine spC 11 h ?_ ?_<;>intro h
  ·obtain⟨g79,h⟩:=gS h
   refine nN K (pu 1 (an g79 (tn 2))) ?_
   refine cnd h ?_ ?_<;>intro h
   ·obtain⟨g80,h⟩:=gS h
    refine nE K (pu 1 (an g80 (tn 1))) ?_
    exact arv [.ren [0, 4] []] ⟨(a0.extract (1 : Int).toNat a0.size), rfl, h⟩
   refine VW.skip ?_
   exact arv [.ren [0, 4] []] ⟨a0, rfl, h⟩
  refine nN K (tn 4) ?_
  refine VW.cond (b := false) (by kernel_rfl) (fun h' => nomatch h') (fun _ => ?_)
  refine VW.skip ?_
  exact arv [.ren [0, 4] []] ⟨a0, rfl, h⟩
 rintro s ⟨x3, rfl, h⟩
 unfold F10_j2 at h
 refine sq <| sq <| VW.region <| nG K 2 (tn 2) ?_
 obtain⟨y5,hy,h⟩:=aS h
 refine clc false [.t (.int .i64), .t (.int .i64), .t (.int .i64)] [] (some 20) K (ok15 N _ _ _ hy) <| nN K (tn 1) ?_
 refine cnd h ?_ ?_<;>intro h
 ·refine nR K (tn 2) ?_
  cases h; exact VW.ret (rt [])
 refine VW.skip <| nR K (tn 1) ?_
 refine VW.join (fun s => ∃ x39, s = ⟨[(0, S a0), (4, S x3), (5, I x39)], []⟩ ∧ F10_j1 N a0 x3 x39 = some r) ?_ ?_
 ·refine nR K (tn 1) <| VW.block <| lop (fun k s => ∃ x55 x56, s = ⟨[(0, S a0), (4, S x3), (5, I x55), (6, I x56)], []⟩ ∧ F10_l0 N a0 x3 k x55 x56 = some r) N [.ren [0, 4, 5, 6] []] ⟨(0 : Int), (0 : Int), rfl, h⟩ ?_
  rintro k67 s ⟨x55, x56, rfl, h⟩
  cases k67 with
  | zero => cases show none = some r from h
  | succ k67 =>
   replace h : F10_l0_b N a0 x3 (F10_l0 N a0 x3 k67) x55 x56 = some r := h
   unfold F10_l0_b at h
   refine sq <| nR K (tn 4) ?_
   refine cnd h ?_ ?_<;>intro h
   ·refine VW.skip <| sq <| VW.block <| sq <| sq <| VW.region ?_
    obtain⟨g75,h⟩:=gS h
    refine nG K 5 (pu 2 (an g75 (tn 2))) ?_
    refine spC 32 h ?_ ?_<;>intro h
    ·refine nN K (tn 5) ?_
     refine VW.cond (b := true) (by kernel_rfl) (fun _ => ?_) (fun h' => nomatch h')
     refine nR K (tn 2) ?_
     cases h; exact VW.ret (rt [])
    obtain⟨g76,h⟩:=gS h
    refine nN K (pu 2 (an g76 (tn 2))) ?_
    refine cnd h ?_ ?_<;>intro h
    ·refine nR K (tn 2) ?_
     cases h; exact VW.ret (rt [])
    refine VW.skip ?_
    obtain⟨g77,h⟩:=gS h
    refine nE K (pu 4 (an g77 (tn 4))) <| nE K (tn 3) ?_
    exact aro [.ren [0, 4, 5, 6] []] ⟨(wr ((wr ((wr ((10 : Int) * x55)) + (wr ((x3.data.getD x56.toNat 0).toNat : Int)))) - (48 : Int))), (wr (x56 + (1 : Int))), rfl, h⟩
   refine VW.exit ?_
   exact arv [.ren [0, 4, 5] []] ⟨x55, rfl, h⟩
 rintro s ⟨x39, rfl, h⟩
 unfold F10_j1 at h
 refine VW.join (fun s => ∃ x40, s = ⟨[(0, S a0), (5, I x40)], []⟩ ∧ F10_j0 N a0 x40 = some r) ?_ ?_
 ·refine nR K (tn 5) ?_
  refine cnd h ?_ ?_<;>intro h
  ·refine nE K (tn 3) ?_
   exact arv [.ren [0, 5] []] ⟨(wr ((0 : Int) - x39)), rfl, h⟩
  refine VW.skip ?_
  exact arv [.ren [0, 5] []] ⟨x39, rfl, h⟩
 rintro s ⟨x40, rfl, h⟩
 unfold F10_j0 at h
 refine sq <| VW.region <| nG K 2 (tn 2) ?_
 obtain⟨y41,hy,h⟩:=aS h
 refine clc false [.t (.int .i64)] [] (some 55) K (ok16 N _ hy) <| nG K 3 (tn 3) ?_
 refine spC 58 h ?_ ?_<;>intro h
 ·refine nG K 1 (tn 1) <| VO.on (j := 5) (want := true) (d := 58) (b := true) rfl rfl rfl (by kernel_rfl) rfl ?_
  obtain⟨y42,hy,h⟩:=aS h
  refine clc false [.t (.int .i64)] [] (some 60) K (ok17 N _ hy) <| nN K (tn 3) ?_
  cases h; exact VW.ret (rt [])
 refine nN K (tn 5) ?_
 cases h; exact VW.ret (rt [])
def F4_j0 (N : Nat) (x65 : (List Z32)) : Option ((List Z32) × Bool) :=
  cond (decide ((x65.length : Int) > (20 : Int))) (some ([], false)) (some (x65, true))
def F4_l0_b (N : Nat) (y1 : (List ByteArray)) (nx109 : (List Z32) → Int → Option ((List Z32) × Bool)) (x87 : (List Z32)) (x88 : Int) : Option ((List Z32) × Bool) :=
  cond (decide (x88 < (y1.length : Int))) (gd (InR x88 y1.length) (gd (x88.toNat < y1.length) (andO (F9 N (y1.getD x88.toNat (Ty.dflt .str)) (64 : Int)) fun y122 => cond ((y122.length : Int) != (2 : Int)) (some ([], false)) (gd (InR (0 : Int) y122.length) (gd ((0 : Int).toNat < y122.length) (andO (F10 N (y122.getD ((0 : Int).toNat) (Ty.dflt .str))) fun y125 => gd (InR (1 : Int) y122.length) (gd ((1 : Int).toNat < y122.length) (andO (F10 N (y122.getD ((1 : Int).toNat) (Ty.dflt .str))) fun y128 => cond (!y125.2) (some ([], false)) (cond (!y128.2) (some ([], false)) (cond (decide (y125.1 < (0 : Int))) (some ([], false)) (cond (decide (y128.1 < (0 : Int))) (some ([], false)) (gd (x87.length + ([(y125.1, y128.1)]).length ≤ lim Y32) (nx109 (x87 ++ ([(y125.1, y128.1)])) (IntKind.i64.wrap (x88 + (1 : Int)))))))))))))))) (F4_j0 N x87)
def F4_l0 (N : Nat) (y1 : (List ByteArray)) := loopF (F4_l0_b N y1) (fun _ _ => none)
theorem F4_l0_s N y1 {k} (hk : 0 < k) x87 x88 : F4_l0 N y1 k x87 x88 = F4_l0_b N y1 (F4_l0 N y1 (k - 1)) x87 x88 := by cases k;cases hk;rfl
def F4 (N : Nat) (a0 : ByteArray) : Option ((List Z32) × Bool) :=
  cond (a0.toList == ByteArray.empty.toList) (some ([], true)) (cond (decide ((a0.size : Int) > (400 : Int))) (some ([], false)) (andO (F9 N a0 (32 : Int)) fun y1 => F4_l0 N y1 N ([]) (0 : Int)))
theorem ok4 N a0 {r} (h : F4 N a0 = some r) : Con prog 4 [S a0] [.lf (.own Y32 r.1 .dp), .lf (.v .bool r.2)] := by
 refine ctr [.lf (.own Y32 .dp), .lf (.v .bool)] K func4 rfl fun w0 E0 ht => ?_
 unfold F4 at h
 show VW _ _ _ _ _ (retQ _ _ _ _) _
 refine nR K (tn 2) <| nR K (tn 2) <| sq <| nR K (tn 2) ?_
 refine cnd h ?_ ?_<;>intro h
 ·refine nR K (tn 3) ?_
  cases h; exact VW.ret (rt [none])
 refine VW.skip <| sq <| nR K (tn 3) ?_
 refine cnd h ?_ ?_<;>intro h
 ·refine nR K (tn 2) ?_
  cases h; exact VW.ret (rt [none])
 refine VW.skip <| sq <| VW.region <| nG K 1 (tn 1) ?_
 obtain⟨y1,hy,h⟩:=aS h
 refine clc false [.t .str, .t (.int .u8)] [] (some 20) K (ok9 N _ _ hy) <| nN K (tn 1) ?_
 refine VW.join (fun s => ∃ x65, s = ⟨[(4, hh 0)], [ar 0 Y32 x65 .dp]⟩ ∧ F4_j0 N x65 = some r) ?_ ?_
 ·refine nR K (tn 1) <| VW.block <| lop (fun k s => ∃ x87 x88, s = ⟨[(4, hh 0), (5, hh 1), (6, I x88)], [ar 0 Y32 x87 .dp, ar 0 .str y1 .dp]⟩ ∧ F4_l0 N y1 k x87 x88 = some r) N [.nilS 4 Y32 .dp, .ren [4, 5, 6] [1, 0]] ⟨[], (0 : Int), rfl, h⟩ ?_
  rintro k109 s ⟨x87, x88, rfl, h⟩
  cases k109 with
  | zero => cases show none = some r from h
  | succ k109 =>
   replace h : F4_l0_b N y1 (F4_l0 N y1 k109) x87 x88 = some r := h
   unfold F4_l0_b at h
   refine sq <| nR K (tn 4) ?_
   refine cnd h ?_ ?_<;>intro h
   ·refine VW.skip <| sq <| VW.block <| sq <| VW.region ?_
    obtain⟨g120,h⟩:=gS h
    obtain⟨g121,h⟩:=gS h
    refine nG K 4 (pu 2 (an g120 (an g121 (tn 0)))) ?_
    obtain⟨y122,hy,h⟩:=aS h
    refine clc false [.t .str, .t (.int .u8)] [] (some 31) K (ok9 N _ _ hy) <| nN K (tn 1) <| sq <| nR K (tn 3) ?_
    refine cnd h ?_ ?_<;>intro h
    ·refine nR K (tn 2) ?_
     cases h; exact VW.ret (rt [none])
    refine VW.skip <| sq <| VW.region ?_
    obtain⟨g123,h⟩:=gS h
    obtain⟨g124,h⟩:=gS h
    refine nG K 3 (pu 1 (an g123 (an g124 (tn 0)))) ?_
    obtain⟨y125,hy,h⟩:=aS h
    refine clc false [.t .str] [] (some 39) K (ok10 N _ hy) <| nN K (tn 5) <| sq <| VW.region ?_
    obtain⟨g126,h⟩:=gS h
    obtain⟨g127,h⟩:=gS h
    refine nG K 3 (pu 1 (an g126 (an g127 (tn 0)))) ?_
    obtain⟨y128,hy,h⟩:=aS h
    refine clc false [.t .str] [] (some 46) K (ok10 N _ hy) <| nN K (tn 5) <| sq <| sq <| VW.region <| nG K 3 (tn 3) ?_
    refine spC 51 h ?_ ?_<;>intro h
    ·refine nN K (tn 11) ?_
     refine VW.cond (b := true) (by kernel_rfl) (fun _ => ?_) (fun h' => nomatch h')
     refine nR K (tn 2) ?_
     cases h; exact VW.ret (rt [none])
    refine nG K 4 (tn 4) ?_
    refine spC 55 h ?_ ?_<;>intro h
    ·refine nN K (tn 7) ?_
     refine VW.cond (b := true) (by kernel_rfl) (fun _ => ?_) (fun h' => nomatch h')
     refine nR K (tn 2) ?_
     cases h; exact VW.ret (rt [none])
    refine nG K 4 (tn 4) ?_
    refine spC 59 h ?_ ?_<;>intro h
    ·refine nN K (tn 3) ?_
     refine VW.cond (b := true) (by kernel_rfl) (fun _ => ?_) (fun h' => nomatch h')
     refine sR K [2, 3] [] ⟨[(2, .lf (.nil)), (3, B false)], []⟩ (tn 2) ?_
     cases h; exact VW.ret (rt [none])
    refine nN K (tn 3) ?_
    refine cnd h ?_ ?_<;>intro h
    ·refine sR K [2, 3] [] ⟨[(2, .lf (.nil)), (3, B false)], []⟩ (tn 2) ?_
     cases h; exact VW.ret (rt [none])
    refine VW.skip ?_
    obtain⟨g129,h⟩:=gS h
    refine rR K [4, 5, 6] [0, 1] ⟨[(4, hh 0), (5, hh 1), (6, I x88)], [ar 0 Y32 (x87 ++ ([(y125.1, y128.1)])) .dp, ar 0 .str y1 .dp]⟩ (pu 5 (an g129 (tn 1))) <| nE K (tn 3) ?_
    exact aro [.ren [4, 5, 6] [0, 1]] ⟨(x87 ++ ([(y125.1, y128.1)])), (wr (x88 + (1 : Int))), rfl, h⟩
   refine VW.exit ?_
   exact arv [.ren [4] [0]] ⟨x87, rfl, h⟩
 rintro s ⟨x65, rfl, h⟩
 unfold F4_j0 at h
 refine sq <| nR K (tn 3) ?_
 refine cnd h ?_ ?_<;>intro h
 ·refine nR K (tn 2) ?_
  cases h; exact VW.ret (rt [none])
 refine VW.skip <| nR K (tn 3) ?_
 cases h; exact VW.ret (rt [some 0])
def F11 (N : Nat) (a0 : ByteArray) (a1 : ByteArray) : Option (List ByteArray) :=
  gd (a0.size < 4294967281 ∧ 1 ≤ a1.size) (some (Lib.splitB a1 0 (Lib.countB a0 a1) a0))
theorem ok11 N a0 a1 {r} (h : F11 N a0 a1 = some r) : Con prog 11 [S a0, S a1] [.lf (.own .str r .dp)] := by
 obtain ⟨g, h⟩ := gd_some h
 cases h
 have hle := Lib.countB_le a1 g.2 a0.size a0 (Nat.le_refl _)
 exact con_split (gp := 5) (g := 0) (by kernel_rfl) (by kernel_rfl) (enters_of func11 rfl (by decide)) (Lib.splitB_all a1 g.2 0 _ a0 rfl) (by omega) (fun m w hm => Go.Proofs.Tryd.strings_Split a0 a1 m w g.1 hm g.2)
def F12 (N : Nat) (a0 : ByteArray) (a1 : ByteArray) : Option (ByteArray × ByteArray × Bool) :=
  gd (a0.size < 4294967281) (some (⟨(Lib.cut a0.data.toList a1.data.toList).1.toArray⟩, ⟨(Lib.cut a0.data.toList a1.data.toList).2.1.toArray⟩, (Lib.cut a0.data.toList a1.data.toList).2.2))
theorem ok12 N a0 a1 {r} (h : F12 N a0 a1 = some r) : Con prog 12 [S a0, S a1] [.lf (.v .str r.1), .lf (.v .str r.2.1), .lf (.v .bool r.2.2)] := by
 obtain ⟨g, h⟩ := gd_some h
 cases h
 exact con_cut (gp := 5) (g := 0) (by kernel_rfl) (by kernel_rfl) (enters_of func12 rfl (by decide)) (fun m w hm => Go.Proofs.Tryd.strings_Cut a0 a1 m w g hm)
def F29 (N : Nat) (a0 : Int) : Option (ByteArray) :=
  gd (-9223372036854775808 ≤ a0 ∧ a0 ≤ 9223372036854775807) (some ⟨(Lib.itoa a0).toArray⟩)
theorem ok29 N a0 {r} (h : F29 N a0 = some r) : Con prog 29 [I a0] [.lf (.v .str r)] := by
 obtain ⟨g, h⟩ := gd_some h
 cases h
 exact con_itoa (g := 5) (by kernel_rfl) (enters_of func29 rfl (by decide)) (fun w ht => Go.Proofs.Tryd.strconv_Itoa a0 g.1 g.2 w ht)
def F21 (N : Nat) (a0 : Int) : Option (ByteArray) :=
  andO (F29 N a0) fun y1 => some y1
theorem ok21 N a0 {r} (h : F21 N a0 = some r) : Con prog 21 [I a0] [.lf (.v .str r)] := by
 refine ctr [.lf (.v .str)] K func21 rfl fun w0 E0 ht => ?_
 unfold F21 at h
 show VW _ _ _ _ _ (retQ _ _ _ _) _
 refine nR K (tn 1) <| sq <| VW.region <| nG K 1 (tn 1) ?_
 obtain⟨y1,hy,h⟩:=aS h
 refine clc false [.t (.int .i64)] [] (some 4) K (ok29 N _ hy) <| nN K (tn 1) ?_
 cases h; exact VW.ret (rt [])
def F30 (N : Nat) (a0 : Int) (a1 : Int) (a2 : Int) : Option (Bool) :=
  cond (decide (a0 ≥ a1)) (some (decide (a0 ≤ a2))) (some false)
theorem ok30 N a0 a1 a2 {r} (h : F30 N a0 a1 a2 = some r) : Con prog 30 [I a0, I a1, I a2] [.lf (.v .bool r)] := by
 refine ctr [.lf (.v .bool)] K func30 rfl fun w0 E0 ht => ?_
 unfold F30 at h
 show VW _ _ _ _ _ (retQ _ _ _ _) _
 refine nR K (tn 1) <| sq <| VW.region <| nG K 4 (tn 4) ?_
 refine spC 10 h ?_ ?_<;>intro h
 ·refine nN K (tn 5) ?_
  cases h; exact VW.ret (rt [])
 refine nN K (tn 5) ?_
 cases h; exact VW.ret (rt [])
def F22 (N : Nat) (a0 : Int) : Option (Bool) :=
  andO (F30 N a0 (-1000000 : Int) (1000000 : Int)) fun y1 => some y1
theorem ok22 N a0 {r} (h : F22 N a0 = some r) : Con prog 22 [I a0] [.lf (.v .bool r)] := by
 refine ctr [.lf (.v .bool)] K func22 rfl fun w0 E0 ht => ?_
 unfold F22 at h
 show VW _ _ _ _ _ (retQ _ _ _ _) _
 refine nR K (tn 1) <| sq <| VW.region <| nG K 1 (tn 1) ?_
 obtain⟨y1,hy,h⟩:=aS h
 refine clc false [.t (.int .i64), .t (.int .i64), .t (.int .i64)] [] (some 4) K (ok30 N _ _ _ hy) <| nN K (tn 1) ?_
 cases h; exact VW.ret (rt [])
theorem read_w (s : ByteArray) (w : World) (hs : s.size ≤ 281474976710656) (hT : Tabs prog w noE) : Calls prog 13 #[.string s] w fun e w' => e = .returned (.tuple #[.int .i64 (rdV s).1, .bool (rdV s).2]) ∧ Below w.heap.size w w' := by
 cases hA : Lib.atoiAll s.data.toList with
 | ok v =>
  have hr := atoi_range hA
  have cA := Go.Proofs.Tryd.strconv_Atoi_ok s (by omega) v hA w
  have cN : ∀ W, Below w.heap.size w W → Calls prog 21 #[.int .i64 v] W fun e w' => e = .returned (.string ⟨(Lib.itoa v).toArray⟩) ∧ Below W.heap.size W w' := fun W hB =>
   (ok21 0 v (r := ⟨(Lib.itoa v).toArray⟩) (by unfold F21 F29; rw [gd_true hr]; rfl)).plain_text (hT.below hB)
  have cI : ∀ W, Below w.heap.size w W → Calls prog 22 #[.int .i64 v] W fun e w' => e = .returned (.bool (decide (NumV v))) ∧ Below W.heap.size W w' := fun W hB =>
   (ok22 0 v (r := decide (NumV v)) (by
        unfold F22 F30 NumV
        by_cases h1 : -1000000 ≤ v <;> by_cases h2 : v ≤ 1000000 <;> simp [h1, h2, andO])).plain_bool (hT.below hB)
  have hB1 : ∀ W, (W = w ∨ ∃ t, W = Lib.bytesWorld w (Go.Proofs.Tryd.laysC172_ren.t 5) t) → Below w.heap.size w W := fun W h => by
   rcases h with rfl | ⟨t, rfl⟩
   ·exact Below.refl _ _
   exact Go.Joins.below_bytesWorld _ _ _ _ (Nat.le_refl _)
  unfold rdV
  rw [hA]
  obtain ⟨t, ht⟩ : ∃ t : ByteArray, (⟨(Lib.itoa v).toArray⟩ : ByteArray) = t := ⟨_, rfl⟩
  simp only [ht] at cN ⊢
  clear ht hA
  have fin : ∀ {W1 W2 : World}, Below w.heap.size w W1 → Below W1.heap.size W1 W2 → Below w.heap.size w W2 := fun h1 h2 => h1.trans (h2.mono h1.size)
  by_cases h1 : t = s
  ·by_cases h2 : NumV v
   ·rw [if_pos ⟨h1, h2⟩]
    rw [decide_eq_true h2] at cI
    subst h1
    go_enter func13, Go.Proofs.Tryd.ntmps13
    go_wp2_with (first
          | (go_at_call 20; refine cA.mono ?_; rintro e W1 ⟨rfl, hW⟩; have hb1 := hB1 _ hW)
          | (go_at_call 21; refine (cN _ hb1).mono ?_; rintro e W2 ⟨rfl, hb2⟩)
          | (go_at_call 22; refine (cI _ (fin hb1 hb2)).mono ?_; rintro e W3 ⟨rfl, hb3⟩))
    go_ret2
    exact ⟨rfl, fin (fin hb1 hb2) hb3⟩
   rw [if_neg (fun h => h2 h.2)]
   rw [decide_eq_false h2] at cI
   subst h1
   go_enter func13, Go.Proofs.Tryd.ntmps13
   go_wp2_with (first
          | (go_at_call 20; refine cA.mono ?_; rintro e W1 ⟨rfl, hW⟩; have hb1 := hB1 _ hW)
          | (go_at_call 21; refine (cN _ hb1).mono ?_; rintro e W2 ⟨rfl, hb2⟩)
          | (go_at_call 22; refine (cI _ (fin hb1 hb2)).mono ?_; rintro e W3 ⟨rfl, hb3⟩))
   go_ret2
   exact ⟨rfl, fin (fin hb1 hb2) hb3⟩
  rw [if_neg (fun h => h1 h.1)]
  have h3 : ¬ t.toList = s.toList := fun e => h1 (by
        rw [ByteArray.toList_eq, ByteArray.toList_eq] at e
        exact ByteArray.ext (Array.toList_inj.1 e))
  go_enter func13, Go.Proofs.Tryd.ntmps13
  go_wp2_with (first
        | (go_at_call 20; refine cA.mono ?_; rintro e W1 ⟨rfl, hW⟩; have hb1 := hB1 _ hW)
        | (go_at_call 21; refine (cN _ hb1).mono ?_; rintro e W2 ⟨rfl, hb2⟩)
        | fail)
  go_ret2
  exact ⟨rfl, fin hb1 hb2⟩
 | range =>
  obtain ⟨ev, hv, hev⟩ := hT.err2 (gp := 5) (g := 2) (by kernel_rfl) (by kernel_rfl)
  have cA := Go.Proofs.Tryd.strconv_Atoi_range s hs hA ev w hv hev
  generalize Lib.atoiSat s.data.toList = sat at cA
  unfold rdV
  rw [hA]
  clear hT hA
  go_enter func13, Go.Proofs.Tryd.ntmps13
  go_wp2_with (go_at_call 20; refine cA.mono ?_; rintro e W1 ⟨N, rfl, _, _, hb1⟩)
  go_ret2
  exact ⟨rfl, hb1⟩
 | _ =>
  obtain ⟨ev, hv, hev⟩ := hT.err1 (gp := 5) (g := 1) (by kernel_rfl) (by kernel_rfl)
  have cA := Go.Proofs.Tryd.strconv_Atoi_syntax s hs hA ev w hv hev
  unfold rdV
  rw [hA]
  clear hT hA
  go_enter func13, Go.Proofs.Tryd.ntmps13
  go_wp2_with (go_at_call 20; refine cA.mono ?_; rintro e W1 ⟨N, rfl, _, _, hb1⟩)
  go_ret2
  exact ⟨rfl, hb1⟩
def F13 (N : Nat) (a0 : ByteArray) : Option (Int × Bool) :=
  gd (a0.size ≤ 281474976710656) (some (rdV a0))
theorem ok13 N a0 {r} (h : F13 N a0 = some r) : Con prog 13 [S a0] [.lf (.v (.int .i64) r.1), .lf (.v .bool r.2)] := by
 obtain ⟨g, h⟩ := gd_some h
 cases h
 exact con_read (enters_of func13 rfl (by decide)) (fun w hT => read_w a0 w g hT)
def F5_j0 (N : Nat) (x43 : (List Z32)) : Option ((List Z32) × Bool) :=
  cond (decide ((x43.length : Int) > (20 : Int))) (some ([], false)) (some (x43, true))
def F5_l0_b (N : Nat) (y45 : (List ByteArray)) (nx74 : (List Z32) → Int → Int → Option ((List Z32) × Bool)) (x59 : (List Z32)) (x60 : Int) (x61 : Int) : Option ((List Z32) × Bool) :=
  cond (decide (x61 < x60)) (gd (InR x61 y45.length) (gd (x61.toNat < y45.length) (andO (F12 N (y45.getD x61.toNat (Ty.dflt .str)) (⟨#[64]⟩ : ByteArray)) fun y83 => andO (F13 N y83.1) fun y84 => andO (F13 N y83.2.1) fun y85 => cond (!y84.2) (some ([], false)) (cond (!y85.2) (some ([], false)) (cond (decide (y84.1 < (0 : Int))) (some ([], false)) (cond (decide (y85.1 < (0 : Int))) (some ([], false)) (gd (x59.length + ([(y84.1, y85.1)]).length ≤ lim Y32) (nx74 (x59 ++ ([(y84.1, y85.1)])) x60 (IntKind.i64.wrap (x61 + (1 : Int))))))))))) (F5_j0 N x59)
def F5_l0 (N : Nat) (y45 : (List ByteArray)) := loopF (F5_l0_b N y45) (fun _ _ _ => none)
theorem F5_l0_s N y45 {k} (hk : 0 < k) x59 x60 x61 : F5_l0 N y45 k x59 x60 x61 = F5_l0_b N y45 (F5_l0 N y45 (k - 1)) x59 x60 x61 := by cases k;cases hk;rfl
def F5 (N : Nat) (a0 : ByteArray) : Option ((List Z32) × Bool) :=
  cond (a0.toList == ByteArray.empty.toList) (some ([], true)) (andO (F11 N a0 (⟨#[32]⟩ : ByteArray)) fun y45 => F5_l0 N y45 N ([]) (y45.length : Int) (0 : Int))
theorem ok5 N a0 {r} (h : F5 N a0 = some r) : Con prog 5 [S a0] [.lf (.own Y32 r.1 .dp), .lf (.v .bool r.2)] := by
 refine ctr [.lf (.own Y32 .dp), .lf (.v .bool)] K func5 rfl fun w0 E0 ht => ?_
 unfold F5 at h
 show VW _ _ _ _ _ (retQ _ _ _ _) _
 refine nR K (tn 2) <| sq <| nR K (tn 2) ?_
 refine cnd h ?_ ?_<;>intro h
 ·refine nR K (tn 2) ?_
  cases h; exact VW.ret (rt [none])
 refine VW.skip <| nR K (tn 1) ?_
 refine VW.join (fun s => ∃ x43, s = ⟨[(4, hh 0)], [ar 0 Y32 x43 .dp]⟩ ∧ F5_j0 N x43 = some r) ?_ ?_
 ·refine sq <| VW.region <| nG K 1 (tn 1) ?_
  obtain⟨y45,hy,h⟩:=aS h
  refine clc false [.t .str, .t .str] [] (some 17) K (ok11 N _ _ hy) <| nN K (tn 2) <| VW.block <| lop (fun k s => ∃ x59 x60 x61, s = ⟨[(4, hh 0), (17, hh 1), (18, I x60), (19, I x61)], [ar 0 Y32 x59 .dp, ar 0 .str y45 .dp]⟩ ∧ F5_l0 N y45 k x59 x60 x61 = some r) N [.nilS 4 Y32 .dp, .ren [4, 17, 18, 19] [1, 0]] ⟨[], (y45.length : Int), (0 : Int), rfl, h⟩ ?_
  rintro k74 s ⟨x59, x60, x61, rfl, h⟩
  cases k74 with
  | zero => cases show none = some r from h
  | succ k74 =>
   replace h : F5_l0_b N y45 (F5_l0 N y45 k74) x59 x60 x61 = some r := h
   unfold F5_l0_b at h
   refine nR K (tn 1) <| sq ?_
   refine cnd h ?_ ?_<;>intro h
   ·refine VW.skip <| sq <| VW.block ?_
    obtain⟨g81,h⟩:=gS h
    obtain⟨g82,h⟩:=gS h
    refine nR K (an g81 (an g82 (tn 1))) <| sq <| VW.region <| nG K 1 (tn 1) ?_
    obtain⟨y83,hy,h⟩:=aS h
    refine clc false [.t .str, .t .str] [] (some 25) K (ok12 N _ _ hy) <| nN K (tn 7) <| sq <| VW.region <| nG K 1 (tn 1) ?_
    obtain⟨y84,hy,h⟩:=aS h
    refine clc false [.t .str] [] (some 31) K (ok13 N _ hy) <| nN K (tn 5) <| sq <| VW.region <| nG K 1 (tn 1) ?_
    obtain⟨y85,hy,h⟩:=aS h
    refine clc false [.t .str] [] (some 36) K (ok13 N _ hy) <| nN K (tn 5) <| sq <| sq <| VW.region <| nG K 3 (tn 3) ?_
    refine spC 41 h ?_ ?_<;>intro h
    ·refine nN K (tn 11) ?_
     refine VW.cond (b := true) (by kernel_rfl) (fun _ => ?_) (fun h' => nomatch h')
     refine nR K (tn 2) ?_
     cases h; exact VW.ret (rt [none])
    refine nG K 4 (tn 4) ?_
    refine spC 45 h ?_ ?_<;>intro h
    ·refine nN K (tn 7) ?_
     refine VW.cond (b := true) (by kernel_rfl) (fun _ => ?_) (fun h' => nomatch h')
     refine nR K (tn 2) ?_
     cases h; exact VW.ret (rt [none])
    refine nG K 4 (tn 4) ?_
    refine spC 49 h ?_ ?_<;>intro h
    ·refine nN K (tn 3) ?_
     refine VW.cond (b := true) (by kernel_rfl) (fun _ => ?_) (fun h' => nomatch h')
     refine sR K [2, 3] [] ⟨[(2, .lf (.nil)), (3, B false)], []⟩ (tn 2) ?_
     cases h; exact VW.ret (rt [none])
    refine nN K (tn 3) ?_
    refine cnd h ?_ ?_<;>intro h
    ·refine sR K [2, 3] [] ⟨[(2, .lf (.nil)), (3, B false)], []⟩ (tn 2) ?_
     cases h; exact VW.ret (rt [none])
    refine VW.skip ?_
    obtain⟨g86,h⟩:=gS h
    refine rR K [4, 17, 18, 19] [0, 1] ⟨[(4, hh 0), (17, hh 1), (18, I x60), (19, I x61)], [ar 0 Y32 (x59 ++ ([(y84.1, y85.1)])) .dp, ar 0 .str y45 .dp]⟩ (pu 5 (an g86 (tn 1))) <| nE K (tn 2) ?_
    exact aro [.ren [4, 17, 18, 19] [0, 1]] ⟨(x59 ++ ([(y84.1, y85.1)])), x60, (wr (x61 + (1 : Int))), rfl, h⟩
   refine VW.exit ?_
   exact arv [.ren [4] [0]] ⟨x59, rfl, h⟩
 rintro s ⟨x43, rfl, h⟩
 unfold F5_j0 at h
 refine sq <| nR K (tn 3) ?_
 refine cnd h ?_ ?_<;>intro h
 ·refine nR K (tn 2) ?_
  cases h; exact VW.ret (rt [none])
 refine VW.skip <| nR K (tn 3) ?_
 cases h; exact VW.ret (rt [some 0])
def F14 (N : Nat) (a0 : Z32) (a1 : Z32) : Option (Bool) :=
  cond (a0.1 != a1.1) (some false) (cond (a0.2 != a1.2) (some false) (some true))
theorem ok14 N a0 a1 {r} (h : F14 N a0 a1 = some r) : Con prog 14 [.agg (lv Y32 a0), .agg (lv Y32 a1)] [.lf (.v .bool r)] := by
 refine ctr [.lf (.v .bool)] K func14 rfl fun w0 E0 ht => ?_
 unfold F14 at h
 show VW _ _ _ _ _ (retQ _ _ _ _) _
 refine nR K (tn 3) <| sq <| nR K (tn 5) ?_
 refine cnd h ?_ ?_<;>intro h
 ·refine nR K (tn 1) ?_
  cases h; exact VW.ret (rt [])
 refine VW.skip <| sq <| nR K (tn 5) ?_
 refine cnd h ?_ ?_<;>intro h
 ·refine nR K (tn 1) ?_
  cases h; exact VW.ret (rt [])
 refine VW.skip <| nR K (tn 1) ?_
 cases h; exact VW.ret (rt [])
def F6_j0 (N : Nat) : Option (Bool) :=
  some true
def F6_l0_b (N : Nat) (a0 : (List Z32)) (a1 : (List Z32)) (nx35 : Int → Option (Bool)) (x28 : Int) : Option (Bool) :=
  cond (decide (x28 < (a0.length : Int))) (gd (InR x28 a0.length) (gd (InR x28 a1.length) (andO (F14 N (a0.getD x28.toNat (Ty.dflt Y32)) (a1.getD x28.toNat (Ty.dflt Y32))) fun y41 => cond (!y41) (some false) (nx35 (IntKind.i64.wrap (x28 + (1 : Int))))))) (F6_j0 N)
def F6_l0 (N : Nat) (a0 : (List Z32)) (a1 : (List Z32)) := loopF (F6_l0_b N a0 a1) (fun _ => none)
theorem F6_l0_s N a0 a1 {k} (hk : 0 < k) x28 : F6_l0 N a0 a1 k x28 = F6_l0_b N a0 a1 (F6_l0 N a0 a1 (k - 1)) x28 := by cases k;cases hk;rfl
def F6 (N : Nat) (a0 : (List Z32)) (a1 : (List Z32)) : Option (Bool) :=
  cond ((a0.length : Int) != (a1.length : Int)) (some false) (F6_l0 N a0 a1 N (0 : Int))
theorem ok6 N a0 a1 {r} (h : F6 N a0 a1 = some r) : Con prog 6 [Vv (.sl Y32) a0, Vv (.sl Y32) a1] [.lf (.v .bool r)] := by
 refine ctr [.lf (.v .bool)] K func6 rfl fun w0 E0 ht => ?_
 unfold F6 at h
 show VW _ _ _ _ _ (retQ _ _ _ _) _
 refine nR K (tn 1) <| sq <| nR K (tn 5) ?_
 refine cnd h ?_ ?_<;>intro h
 ·refine nR K (tn 1) ?_
  cases h; exact VW.ret (rt [])
 refine VW.skip ?_
 refine VW.join (fun s => s = ⟨[], []⟩ ∧ F6_j0 N = some r) ?_ ?_
 ·refine nR K (tn 1) <| VW.block <| lop (fun k s => ∃ x28, s = ⟨[(0, Vv (.sl Y32) a0), (1, Vv (.sl Y32) a1), (5, I x28)], []⟩ ∧ F6_l0 N a0 a1 k x28 = some r) N [.ren [0, 1, 5] []] ⟨(0 : Int), rfl, h⟩ ?_
  rintro k35 s ⟨x28, rfl, h⟩
  cases k35 with
  | zero => cases show none = some r from h
  | succ k35 =>
   replace h : F6_l0_b N a0 a1 (F6_l0 N a0 a1 k35) x28 = some r := h
   unfold F6_l0_b at h
   refine sq <| nR K (tn 4) ?_
   refine cnd h ?_ ?_<;>intro h
   ·refine VW.skip <| sq <| VW.block <| sq ?_
    obtain⟨g39,h⟩:=gS h
    obtain⟨g40,h⟩:=gS h
    obtain⟨y41,hy41,h⟩:=aS h
    refine dr K [(8, .cl [] (some 25) [.lf (.v .bool y41)])] [(8, 0)] [] [0, 1, 5, 26] [] (pu 2 (an g39 (pu 3 (an g40 (tn 3))))) ⟨qC false [.t Y32, .t Y32] [] [] (some 25) K (ok14 N _ _ hy41), trivial⟩ ?_
    refine cnd h ?_ ?_<;>intro h
    ·refine nR K (tn 1) ?_
     cases h; exact VW.ret (rt [])
    refine VW.skip <| nE K (tn 3) ?_
    exact aro [.ren [0, 1, 5] []] ⟨(wr (x28 + (1 : Int))), rfl, h⟩
   refine VW.exit ?_
   exact arv [.ren [] []] ⟨rfl, h⟩
 rintro s ⟨rfl, h⟩
 unfold F6_j0 at h
 refine nR K (tn 1) ?_
 cases h; exact VW.ret (rt [])
def F7_j0 (N : Nat) (x29 : Int) (x30 : (List Z32)) : Option ((List Z32) × Int) :=
  some (x30, x29)
def F7_l0_b (N : Nat) (nx51 : (List Z32) → Int → Int → Option ((List Z32) × Int)) (x40 : (List Z32)) (x41 : Int) (x42 : Int) : Option ((List Z32) × Int) :=
  cond (decide (x42 < (x40.length : Int))) (gd (InR x42 x40.length) (gd (x42.toNat < x40.length) (gd (InR x42 (x40.set x42.toNat (x41, (x40.getD x42.toNat (Ty.dflt Y32)).2)).length) (gd (x42.toNat < (x40.set x42.toNat (x41, (x40.getD x42.toNat (Ty.dflt Y32)).2)).length) (nx51 ((x40.set x42.toNat (x41, (x40.getD x42.toNat (Ty.dflt Y32)).2)).set x42.toNat (((x40.set x42.toNat (x41, (x40.getD x42.toNat (Ty.dflt Y32)).2)).getD x42.toNat (Ty.dflt Y32)).1, (IntKind.i64.wrap (x41 + (1 : Int))))) (IntKind.i64.wrap ((IntKind.i64.wrap (x41 + (1 : Int))) + (1 : Int))) (IntKind.i64.wrap (x42 + (1 : Int)))))))) (F7_j0 N x41 x40)
def F7_l0 (N : Nat) := loopF (F7_l0_b N) (fun _ _ _ => none)
theorem F7_l0_s N {k} (hk : 0 < k) x40 x41 x42 : F7_l0 N k x40 x41 x42 = F7_l0_b N (F7_l0 N (k - 1)) x40 x41 x42 := by cases k;cases hk;rfl
def F7 (N : Nat) (a0 : (List Z32)) (a1 : Int) : Option ((List Z32) × Int) :=
  F7_l0 N N a0 a1 (0 : Int)
theorem ok7 N a0 a1 {r} (h : F7 N a0 a1 = some r) : ConM prog 7 [ar 0 Y32 a0 .dp] [hh 0, I a1] [.lf (.v (.int .i64) r.2)] [ar 0 Y32 r.1 .dp] := by
 refine ⟨enters_of func7 rfl (by decide), HM.intro [.lf (.v (.int .i64))] K func7 rfl (Nat.le_of_ble_eq_true rfl) (Nat.le_of_ble_eq_true rfl) fun w0 E0 ht => ?_⟩
 unfold F7 at h
 show VW _ _ _ _ _ (retM _ _ _ _ _) _
 refine nR K (tn 1) ?_
 refine VW.join (fun s => ∃ x29 x30, s = ⟨[(1, I x29), (65536, hh 0)], [ar 0 Y32 x30 .dp]⟩ ∧ F7_j0 N x29 x30 = some r) ?_ ?_
 ·refine nR K (tn 1) <| VW.block <| lop (fun k s => ∃ x40 x41 x42, s = ⟨[(0, hh 0), (1, I x41), (5, I x42), (65536, hh 0)], [ar 0 Y32 x40 .dp]⟩ ∧ F7_l0 N k x40 x41 x42 = some r) N [.ren [0, 1, 5, 65536] [0]] ⟨a0, a1, (0 : Int), rfl, h⟩ ?_
  rintro k51 s ⟨x40, x41, x42, rfl, h⟩
  cases k51 with
  | zero => cases show none = some r from h
  | succ k51 =>
   replace h : F7_l0_b N (F7_l0 N k51) x40 x41 x42 = some r := h
   unfold F7_l0_b at h
   refine sq <| nR K (tn 4) ?_
   refine cnd h ?_ ?_<;>intro h
   ·refine VW.skip <| sq <| VW.block ?_
    obtain⟨g56,h⟩:=gS h
    obtain⟨g57,h⟩:=gS h
    refine nR K (pu 3 (an g56 (pu 1 (an g57 (tn 0))))) <| nR K (tn 3) ?_
    obtain⟨g58,h⟩:=gS h
    obtain⟨g59,h⟩:=gS h
    refine nR K (pu 3 (an g58 (pu 1 (an g59 (tn 0))))) <| nE K (tn 3) <| nE K (tn 3) ?_
    exact aro [.ren [0, 1, 5, 65536] [0]] ⟨((x40.set x42.toNat (x41, (x40.getD x42.toNat D32).2)).set x42.toNat (((x40.set x42.toNat (x41, (x40.getD x42.toNat D32).2)).getD x42.toNat D32).1, (wr (x41 + (1 : Int))))), (wr ((wr (x41 + (1 : Int))) + (1 : Int))), (wr (x42 + (1 : Int))), rfl, h⟩
   refine VW.exit ?_
   exact arv [.ren [1, 65536] [0]] ⟨x41, x40, rfl, h⟩
 rintro s ⟨x29, x30, rfl, h⟩
 unfold F7_j0 at h
 refine nR K (tn 2) ?_
 replace h := Option.some.inj h
 subst h
 refine VW.ghl [.ren [4, 65536] [0]] (VW.ret ?_)
 exact ⟨[], by kernel_rfl, by kernel_rfl, by kernel_rfl⟩
def F8_j0 (N : Nat) (x28 : Int) : Option (Int) :=
  some x28
def F8_l0_b (N : Nat) (a0 : (List Z32)) (nx48 : Int → Int → Option (Int)) (x38 : Int) (x39 : Int) : Option (Int) :=
  cond (decide (x39 < (a0.length : Int))) (gd (InR x39 a0.length) (cond (((a0.getD x39.toNat (Ty.dflt Y32)).1) != x38) (some (-1 : Int)) (gd (InR x39 a0.length) (cond (((a0.getD x39.toNat (Ty.dflt Y32)).2) != (IntKind.i64.wrap (x38 + (1 : Int)))) (some (-1 : Int)) (nx48 (IntKind.i64.wrap ((IntKind.i64.wrap (x38 + (1 : Int))) + (1 : Int))) (IntKind.i64.wrap (x39 + (1 : Int)))))))) (F8_j0 N x38)
def F8_l0 (N : Nat) (a0 : (List Z32)) := loopF (F8_l0_b N a0) (fun _ _ => none)
theorem F8_l0_s N a0 {k} (hk : 0 < k) x38 x39 : F8_l0 N a0 k x38 x39 = F8_l0_b N a0 (F8_l0 N a0 (k - 1)) x38 x39 := by cases k;cases hk;rfl
def F8 (N : Nat) (a0 : (List Z32)) (a1 : Int) : Option (Int) :=
  F8_l0 N a0 N a1 (0 : Int)
theorem ok8 N a0 a1 {r} (h : F8 N a0 a1 = some r) : Con prog 8 [Vv (.sl Y32) a0, I a1] [.lf (.v (.int .i64) r)] := by
 refine ctr [.lf (.v (.int .i64))] K func8 rfl fun w0 E0 ht => ?_
 unfold F8 at h
 show VW _ _ _ _ _ (retQ _ _ _ _) _
 refine nR K (tn 1) ?_
 refine VW.join (fun s => ∃ x28, s = ⟨[(1, I x28)], []⟩ ∧ F8_j0 N x28 = some r) ?_ ?_
 ·refine nR K (tn 1) <| VW.block <| lop (fun k s => ∃ x38 x39, s = ⟨[(0, Vv (.sl Y32) a0), (1, I x38), (5, I x39)], []⟩ ∧ F8_l0 N a0 k x38 x39 = some r) N [.ren [0, 1, 5] []] ⟨a1, (0 : Int), rfl, h⟩ ?_
  rintro k48 s ⟨x38, x39, rfl, h⟩
  cases k48 with
  | zero => cases show none = some r from h
  | succ k48 =>
   replace h : F8_l0_b N a0 (F8_l0 N a0 k48) x38 x39 = some r := h
   unfold F8_l0_b at h
   refine sq <| nR K (tn 4) ?_
   refine cnd h ?_ ?_<;>intro h
   ·refine VW.skip <| sq <| VW.block <| sq ?_
    obtain⟨g54,h⟩:=gS h
    refine nR K (pu 2 (an g54 (tn 4))) ?_
    refine cnd h ?_ ?_<;>intro h
    ·refine nR K (tn 1) ?_
     cases h; exact VW.ret (rt [])
    refine VW.skip <| nR K (tn 3) <| sq ?_
    obtain⟨g56,h⟩:=gS h
    refine nR K (pu 2 (an g56 (tn 4))) ?_
    refine cnd h ?_ ?_<;>intro h
    ·refine nR K (tn 1) ?_
     cases h; exact VW.ret (rt [])
    refine VW.skip <| nE K (tn 3) <| nE K (tn 3) ?_
    exact aro [.ren [0, 1, 5] []] ⟨(wr ((wr (x38 + (1 : Int))) + (1 : Int))), (wr (x39 + (1 : Int))), rfl, h⟩
   refine VW.exit ?_
   exact arv [.ren [1] []] ⟨x38, rfl, h⟩
 rintro s ⟨x28, rfl, h⟩
 unfold F8_j0 at h
 refine nR K (tn 2) ?_
 cases h; exact VW.ret (rt [])
def F3 (N : Nat) (a0 : ByteArray) : Option (Bool) :=
  cond (decide ((a0.size : Int) > (1048576 : Int))) (some true) (andO (F4 N a0) fun y1 => andO (F5 N a0) fun y2 => andO (F6 N y2.1 y1.1) fun y4 => cond (!y4) (some false) (cond (!(y2.2 == y1.2)) (some false) (andO (F7 N y2.1 (1 : Int)) fun y5 => andO (F8 N y5.1 (1 : Int)) fun y6 => cond (decide (y6 < (0 : Int))) (some false) (cond (y6 != y5.2) (some false) (andO (F5 N a0) fun y7 => andO (F6 N y7.1 y1.1) fun y9 => cond (!y9) (some false) (cond (!(y7.2 == y1.2)) (some false) (andO (F8 N y5.1 (1 : Int)) fun y10 => cond (decide (y10 < (0 : Int))) (some false) (cond (y10 != y5.2) (some false) (some true)))))))))
theorem ok3 N a0 {r} (h : F3 N a0 = some r) : Con prog 3 [S a0] [.lf (.v .bool r)] := by
 refine ctr [.lf (.v .bool)] K func3 rfl fun w0 E0 ht => ?_
 unfold F3 at h
 show VW _ _ _ _ _ (retQ _ _ _ _) _
 refine nR K (tn 1) <| sq <| nR K (tn 3) ?_
 refine cnd h ?_ ?_<;>intro h
 ·refine nR K (tn 1) ?_
  cases h; exact VW.ret (rt [])
 refine VW.skip <| sq <| VW.region <| nG K 1 (tn 1) ?_
 obtain⟨y1,hy,h⟩:=aS h
 refine clc false [.t .str] [] (some 16) K (ok4 N _ hy) <| nN K (tn 5) <| sq <| VW.region <| nG K 1 (tn 1) ?_
 obtain⟨y2,hy,h⟩:=aS h
 refine clc false [.t .str] [] (some 21) K (ok5 N _ hy) <| nN K (tn 5) <| sq <| sq <| VW.region <| nG K 2 (tn 2) ?_
 obtain⟨y4,hy,h⟩:=aS h
 refine clc true [.t (.sl Y32), .t (.sl Y32)] [] (some 26) K (ok6 N _ _ hy) <| nG K 2 (tn 2) ?_
 refine spC 28 h ?_ ?_<;>intro h
 ·refine nN K (tn 4) ?_
  refine VW.cond (b := true) (by kernel_rfl) (fun _ => ?_) (fun h' => nomatch h')
  refine nR K (tn 1) ?_
  cases h; exact VW.ret (rt [])
 refine nN K (tn 4) ?_
 refine cnd h ?_ ?_<;>intro h
 ·refine nR K (tn 1) ?_
  cases h; exact VW.ret (rt [])
 refine VW.skip <| nR K (tn 1) <| sq <| VW.region <| nG K 2 (tn 2) ?_
 obtain⟨y5,hy,h⟩:=aS h
 refine VO.callM [1] [.t (.sl Y32), .t (.int .i64)] (d := some 35) (by kernel_rfl) (by kernel_rfl) (ok7 N _ _ hy) (by kernel_rfl) <| nN K (tn 1) <| sRh K [0, 3, 4, 5, 7, 8] [0, 1] [(0, S a0), (3, hh 0), (4, B y1.2), (5, hh 1), (7, I y5.2), (8, I (1 : Int))] (tn 1) <| sq <| VW.region <| nG K 2 (tn 2) ?_
 obtain⟨y6,hy,h⟩:=aS h
 refine clc true [.t (.sl Y32), .t (.int .i64)] [] (some 38) K (ok8 N _ _ hy) <| nN K (tn 1) <| sq <| nR K (tn 2) ?_
 refine cnd h ?_ ?_<;>intro h
 ·refine nR K (tn 1) ?_
  cases h; exact VW.ret (rt [])
 refine VW.skip <| sq <| nR K (tn 3) ?_
 refine cnd h ?_ ?_<;>intro h
 ·refine nR K (tn 1) ?_
  cases h; exact VW.ret (rt [])
 refine VW.skip <| sq <| VW.region <| nG K 1 (tn 1) ?_
 obtain⟨y7,hy,h⟩:=aS h
 refine clc false [.t .str] [] (some 46) K (ok5 N _ hy) <| nN K (tn 5) <| sq <| sq <| VW.region <| nG K 2 (tn 2) ?_
 obtain⟨y9,hy,h⟩:=aS h
 refine clc true [.t (.sl Y32), .t (.sl Y32)] [] (some 51) K (ok6 N _ _ hy) <| nG K 2 (tn 2) ?_
 refine spC 53 h ?_ ?_<;>intro h
 ·refine nN K (tn 4) ?_
  refine VW.cond (b := true) (by kernel_rfl) (fun _ => ?_) (fun h' => nomatch h')
  refine nR K (tn 1) ?_
  cases h; exact VW.ret (rt [])
 refine nN K (tn 4) ?_
 refine cnd h ?_ ?_<;>intro h
 ·refine nR K (tn 1) ?_
  cases h; exact VW.ret (rt [])
 refine VW.skip <| nR K (tn 1) <| sq <| VW.region <| nG K 2 (tn 2) ?_
 obtain⟨y10,hy,h⟩:=aS h
 refine clc true [.t (.sl Y32), .t (.int .i64)] [] (some 60) K (ok8 N _ _ hy) <| nN K (tn 1) <| sq <| sR K [7, 8, 62] [] ⟨[(7, I y5.2), (8, I y10), (62, B (decide (y10 < (0 : Int))))], []⟩ (tn 2) ?_
 refine cnd h ?_ ?_<;>intro h
 ·refine nR K (tn 1) ?_
  cases h; exact VW.ret (rt [])
 refine VW.skip <| sq <| nR K (tn 3) ?_
 refine cnd h ?_ ?_<;>intro h
 ·refine nR K (tn 1) ?_
  cases h; exact VW.ret (rt [])
 refine VW.skip <| nR K (tn 1) ?_
 cases h; exact VW.ret (rt [])
end Go.Proofs.YtahgoingdfncbaaDoor.Vc
