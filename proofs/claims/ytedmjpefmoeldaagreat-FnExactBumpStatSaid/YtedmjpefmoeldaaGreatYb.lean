/- What functions of the program compute, and that they do. -/
import Derived.Test.YtedmjpefmoeldaaGreatYa
namespace Go.Proofs.YtedmjpefmoeldaaGreat.Vc
open Go Go.RowKit Go.Proofs.Tryz
set_option linter.unusedVariables false
set_option maxRecDepth 100000
set_option maxHeartbeats 4000000
def F134_j0 (N : Nat) (x12 : Int) : Option (Int) :=
  some x12
def F134_l0_b (N : Nat) (a0 : (List Int)) (nx21 : Int → Int → Option (Int)) (x17 : Int) (x18 : Int) : Option (Int) :=
  cond (decide (x18 < (a0.length : Int))) (gd (InR x18 a0.length) (nx21 (if (x17 : Int) < (a0.getD x18.toNat (Ty.dflt (.int .i64))) then (a0.getD x18.toNat (Ty.dflt (.int .i64))) else x17) (IntKind.i64.wrap (x18 + (1 : Int))))) (F134_j0 N x17)
def F134_l0 (N : Nat) (a0 : (List Int)) := loopF (F134_l0_b N a0) (fun _ _ => none)
theorem F134_l0_s N a0 {k} (hk : 0 < k) x17 x18 : F134_l0 N a0 k x17 x18 = F134_l0_b N a0 (F134_l0 N a0 (k - 1)) x17 x18 := by cases k;cases hk;rfl
def F134 (N : Nat) (a0 : (List Int)) : Option (Int) :=
  cond (decide ((a0.length : Int) < (1 : Int))) (none) (gd (InR (0 : Int) a0.length) (F134_l0 N a0 N (a0.getD (0 : Int).toNat (Ty.dflt (.int .i64))) (1 : Int)))
theorem ok134 N a0 {r} (h : F134 N a0 = some r) : Con prog 134 [Vv (.sl (.int .i64)) a0] [.lf (.v (.int .i64) r)] := by
 refine ctr [.lf (.v (.int .i64))] K func134 rfl fun w0 E0 ht => ?_
 unfold F134 at h
 show VW _ _ _ _ _ (retQ _ _ _ _) _
 refine nR K (tn 1) <| sq <| nR K (tn 3) ?_
 refine cnd h ?_ ?_<;>intro h
 ·exact nomatch h
 refine VW.skip ?_
 obtain⟨g1,h⟩:=gS h
 refine nR K (pu 1 (an g1 (tn 2))) ?_
 refine VW.join (fun s => ∃ x12, s = ⟨[(3, I x12)], []⟩ ∧ F134_j0 N x12 = some r) ?_ ?_
 ·refine nR K (tn 1) <| VW.block <| lop (fun k s => ∃ x17 x18, s = ⟨[(0, Vv (.sl (.int .i64)) a0), (3, I x17), (4, I x18)], []⟩ ∧ F134_l0 N a0 k x17 x18 = some r) N [.ren [0, 3, 4] []] ⟨(a0.getD (0 : Int).toNat (Ty.dflt (.int .i64))), (1 : Int), rfl, h⟩ ?_
  rintro k21 s ⟨x17, x18, rfl, h⟩
  cases k21 with
  | zero => cases show none = some r from h
  | succ k21 =>
   replace h : F134_l0_b N a0 (F134_l0 N a0 k21) x17 x18 = some r := h
   unfold F134_l0_b at h
   refine sq <| nR K (tn 4) ?_
   refine cnd h ?_ ?_<;>intro h
   ·refine VW.skip <| sq <| VW.block ?_
    obtain⟨g23,h⟩:=gS h
    refine nE K (pu 3 (an g23 (tn 3))) <| nE K (tn 3) ?_
    exact aro [.ren [0, 3, 4] []] ⟨(if (x17 : Int) < (a0.getD x18.toNat (Ty.dflt (.int .i64))) then (a0.getD x18.toNat (Ty.dflt (.int .i64))) else x17), (wr (x18 + (1 : Int))), rfl, h⟩
   refine VW.exit ?_
   exact arv [.ren [3] []] ⟨x17, rfl, h⟩
 rintro s ⟨x12, rfl, h⟩
 unfold F134_j0 at h
 refine nR K (tn 2) ?_
 cases h; exact VW.ret (rt [])
def F106_j0 (N : Nat) (x31 : (List Int)) : Option (Int) :=
  gd (InR (0 : Int) x31.length) (gd ((0 : Int).toNat < x31.length) (some (x31.getD ((0 : Int).toNat) (Ty.dflt (.int .i64)))))
def F106_j1 (N : Nat) (x31 : (List Int)) (x86 : Int) (x87 : ByteArray) (x88 : Int) (x89 : Int) (x90 : Int) (x91 : Bool) (x92 : (List Int)) (x93 : Int) (x94 : Bool) : Option (Int) :=
  cond x94 (gd (InR (0 : Int) x31.length) (gd ((0 : Int).toNat < x31.length) (cond (decide (x88 ≥ (x31.getD ((0 : Int).toNat) (Ty.dflt (.int .i64))))) (some (-1 : Int)) (F106_j0 N x31)))) (cond (x93 == (2 : Int)) (andO (F134 N x92) fun y100 => gd (InR (0 : Int) x31.length) (gd ((0 : Int).toNat < x31.length) (cond (decide (y100 ≥ (x31.getD ((0 : Int).toNat) (Ty.dflt (.int .i64))))) (some (-1 : Int)) (some (x92.length : Int))))) (cond (x93 == (3 : Int)) (gd (InR (0 : Int) x31.length) (gd ((0 : Int).toNat < x31.length) (cond (decide (x88 ≥ (x31.getD ((0 : Int).toNat) (Ty.dflt (.int .i64))))) (some (-1 : Int)) (gd (InR (1 : Int) x31.length) (gd ((1 : Int).toNat < x31.length) (cond (decide (x90 ≥ (x31.getD ((1 : Int).toNat) (Ty.dflt (.int .i64))))) (some (-1 : Int)) (gd (InR (0 : Int) x31.length) (gd ((0 : Int).toNat < x31.length) (gd (InR (1 : Int) x31.length) (gd ((1 : Int).toNat < x31.length) (cond (decide ((IntKind.i64.wrap ((x31.getD ((0 : Int).toNat) (Ty.dflt (.int .i64))) + (x31.getD ((1 : Int).toNat) (Ty.dflt (.int .i64))))) > (64 : Int))) (some (-1 : Int)) (gd (InR (0 : Int) x31.length) (gd ((0 : Int).toNat < x31.length) (gd (InR (1 : Int) x31.length) (gd ((1 : Int).toNat < x31.length) (some (IntKind.i64.wrap ((x31.getD ((0 : Int).toNat) (Ty.dflt (.int .i64))) + (x31.getD ((1 : Int).toNat) (Ty.dflt (.int .i64))))))))))))))))))))) (cond (x93 == (4 : Int)) (gd (InR (0 : Int) x31.length) (gd ((0 : Int).toNat < x31.length) (gd (InR (1 : Int) x31.length) (gd ((1 : Int).toNat < x31.length) (cond ((x31.getD ((0 : Int).toNat) (Ty.dflt (.int .i64))) != (x31.getD ((1 : Int).toNat) (Ty.dflt (.int .i64)))) (some (-1 : Int)) (F106_j0 N x31)))))) (F106_j0 N x31))))
def F106_j2 (N : Nat) (a0 : (List Z75)) (a1 : (List Z64)) (a2 : Int) (x31 : (List Int)) : Option (Int) :=
  gd (InR a2 a1.length) (cond (((a1.getD a2.toNat (Ty.dflt Y64)).1) == (0 : Int)) (andO (F133 N a0 ((a1.getD a2.toNat (Ty.dflt Y64)).2.1)) fun y84 => cond (decide (y84 < (0 : Int))) (some (-1 : Int)) (gd (InR y84 a0.length) (some ((a0.getD y84.toNat (Ty.dflt Y75)).2)))) (cond (((a1.getD a2.toNat (Ty.dflt Y64)).1) == (1 : Int)) (F106_j1 N x31 ((a1.getD a2.toNat (Ty.dflt Y64)).1) ((a1.getD a2.toNat (Ty.dflt Y64)).2.1) ((a1.getD a2.toNat (Ty.dflt Y64)).2.2.1) ((a1.getD a2.toNat (Ty.dflt Y64)).2.2.2.1) ((a1.getD a2.toNat (Ty.dflt Y64)).2.2.2.2.1) ((a1.getD a2.toNat (Ty.dflt Y64)).2.2.2.2.2.1) ((a1.getD a2.toNat (Ty.dflt Y64)).2.2.2.2.2.2) ((a1.getD a2.toNat (Ty.dflt Y64)).1) (((a1.getD a2.toNat (Ty.dflt Y64)).1) == (1 : Int))) (F106_j1 N x31 ((a1.getD a2.toNat (Ty.dflt Y64)).1) ((a1.getD a2.toNat (Ty.dflt Y64)).2.1) ((a1.getD a2.toNat (Ty.dflt Y64)).2.2.1) ((a1.getD a2.toNat (Ty.dflt Y64)).2.2.2.1) ((a1.getD a2.toNat (Ty.dflt Y64)).2.2.2.2.1) ((a1.getD a2.toNat (Ty.dflt Y64)).2.2.2.2.2.1) ((a1.getD a2.toNat (Ty.dflt Y64)).2.2.2.2.2.2) ((a1.getD a2.toNat (Ty.dflt Y64)).1) (((a1.getD a2.toNat (Ty.dflt Y64)).1) == (5 : Int)))))
def F106_l0_b (N : Nat) (a0 : (List Z75)) (a1 : (List Z64)) (a2 : Int) (self : (List Z75) → (List Z64) → Int → Option (Int)) (y133 : (List Int)) (nx154 : (List Int) → Int → Int → Option (Int)) (x143 : (List Int)) (x144 : Int) (x145 : Int) : Option (Int) :=
  cond (decide (x145 < x144)) (gd (InR x145 y133.length) (gd (x145.toNat < y133.length) (andO (self a0 a1 (y133.getD x145.toNat (Ty.dflt (.int .i64)))) fun y161 => cond (decide (y161 < (0 : Int))) (some (-1 : Int)) (gd (x143.length + ([y161]).length ≤ lim (.int .i64)) (nx154 (x143 ++ ([y161])) x144 (IntKind.i64.wrap (x145 + (1 : Int)))))))) (F106_j2 N a0 a1 a2 x143)
def F106_l0 (N : Nat) (a0 : (List Z75)) (a1 : (List Z64)) (a2 : Int) (self : (List Z75) → (List Z64) → Int → Option (Int)) (y133 : (List Int)) := loopF (F106_l0_b N a0 a1 a2 self y133) (fun _ _ _ => none)
theorem F106_l0_s N a0 a1 a2 (self : (List Z75) → (List Z64) → Int → Option (Int)) y133 {k} (hk : 0 < k) x143 x144 x145 : F106_l0 N a0 a1 a2 self y133 k x143 x144 x145 = F106_l0_b N a0 a1 a2 self y133 (F106_l0 N a0 a1 a2 self y133 (k - 1)) x143 x144 x145 := by cases k;cases hk;rfl
def F106_b (N : Nat) (self : (List Z75) → (List Z64) → Int → Option (Int)) (a0 : (List Z75)) (a1 : (List Z64)) (a2 : Int) : Option (Int) :=
  andO (F132 N a1 a2) fun y133 => F106_l0 N a0 a1 a2 self y133 N ([]) (y133.length : Int) (0 : Int)
theorem ok106_b (N : Nat) (self : (List Z75) → (List Z64) → Int → Option (Int)) (ih : ∀ (a0 : (List Z75)) (a1 : (List Z64)) (a2 : Int) (r : Int), self a0 a1 a2 = some r → Con prog 106 [Vv (.sl Y75) a0, Vv (.sl Y64) a1, I a2] [.lf (.v (.int .i64) r)]) (a0 : (List Z75)) (a1 : (List Z64)) (a2 : Int) {r : Int} (h : F106_b N self a0 a1 a2 = some r) : Con prog 106 [Vv (.sl Y75) a0, Vv (.sl Y64) a1, I a2] [.lf (.v (.int .i64) r)] := by
 refine ctr [.lf (.v (.int .i64))] K func106 rfl fun w0 E0 ht => ?_
 unfold F106_b at h
 show VW _ _ _ _ _ (retQ _ _ _ _) _
 refine nR K (tn 1) <| nR K (tn 1) ?_
 refine VW.join (fun s => ∃ x31, s = ⟨[(0, Vv (.sl Y75) a0), (1, Vv (.sl Y64) a1), (2, I a2), (7, hh 0)], [ar 0 (.int .i64) x31 .dp]⟩ ∧ F106_j2 N a0 a1 a2 x31 = some r) ?_ ?_
 ·refine sq <| VW.region <| nG K 2 (tn 2) ?_
  obtain⟨y133,hy,h⟩:=aS h
  refine clc false [.t (.sl Y64), .t (.int .i64)] [] (some 15) K (ok132 N _ _ hy) <| nN K (tn 2) <| VW.block <| lop (fun k s => ∃ x143 x144 x145, s = ⟨[(0, Vv (.sl Y75) a0), (1, Vv (.sl Y64) a1), (2, I a2), (7, hh 0), (15, hh 1), (16, I x144), (17, I x145)], [ar 0 (.int .i64) x143 .dp, ar 0 (.int .i64) y133 .dp]⟩ ∧ F106_l0 N a0 a1 a2 self y133 k x143 x144 x145 = some r) N [.nilS 7 (.int .i64) .dp, .ren [0, 1, 2, 7, 15, 16, 17] [1, 0]] ⟨[], (y133.length : Int), (0 : Int), rfl, h⟩ ?_
  rintro k154 s ⟨x143, x144, x145, rfl, h⟩
  cases k154 with
  | zero => cases show none = some r from h
  | succ k154 =>
   replace h : F106_l0_b N a0 a1 a2 self y133 (F106_l0 N a0 a1 a2 self y133 k154) x143 x144 x145 = some r := h
   unfold F106_l0_b at h
   refine nR K (tn 1) <| sq ?_
   refine cnd h ?_ ?_<;>intro h
   ·refine VW.skip <| sq <| VW.block ?_
    obtain⟨g159,h⟩:=gS h
    obtain⟨g160,h⟩:=gS h
    refine nR K (an g159 (an g160 (tn 1))) <| sq <| VW.region <| nG K 3 (tn 3) ?_
    obtain⟨y161,hy,h⟩:=aS h
    refine clc false [.t (.sl Y75), .t (.sl Y64), .t (.int .i64)] [] (some 24) K (ih _ _ _ _ hy) <| nN K (tn 1) <| sq <| nR K (tn 2) ?_
    refine cnd h ?_ ?_<;>intro h
    ·refine nR K (tn 1) ?_
     cases h; exact VW.ret (rt [])
    refine VW.skip ?_
    obtain⟨g162,h⟩:=gS h
    refine nE K (pu 3 (an g162 (tn 1))) <| nE K (tn 2) ?_
    exact aro [.ren [0, 1, 2, 7, 15, 16, 17] [0, 1]] ⟨(x143 ++ ([y161])), x144, (wr (x145 + (1 : Int))), rfl, h⟩
   refine VW.exit ?_
   exact arv [.ren [0, 1, 2, 7] [0]] ⟨x143, rfl, h⟩
 rintro s ⟨x31, rfl, h⟩
 unfold F106_j2 at h
 obtain⟨g32,h⟩:=gS h
 refine nR K (pu 2 (an g32 (tn 3))) ?_
 refine VW.join (fun s => s = ⟨[(7, hh 0)], [ar 0 (.int .i64) x31 .dp]⟩ ∧ F106_j0 N x31 = some r) ?_ ?_
 ·refine nR K (tn 2) <| VW.block <| nR K (tn 2) ?_
  refine cnd h ?_ ?_<;>intro h
  ·refine sq <| VW.region <| nG K 3 (tn 3) ?_
   obtain⟨y84,hy,h⟩:=aS h
   refine clc false [.t (.sl Y75), .t .str] [] (some 43) K (ok133 N _ _ hy) <| nN K (tn 1) <| sq <| nR K (tn 2) ?_
   refine cnd h ?_ ?_<;>intro h
   ·refine nR K (tn 1) ?_
    cases h; exact VW.ret (rt [])
   refine VW.skip ?_
   obtain⟨g85,h⟩:=gS h
   refine nR K (pu 2 (an g85 (tn 3))) ?_
   cases h; exact VW.ret (rt [])
  refine VW.join (fun s => ∃ x86 x87 x88 x89 x90 x91 x92 x93 x94, s = ⟨[(7, hh 0), (11, .lf (.ptr 1 0 0 0)), (37, I x93), (51, B x94)], [ar 0 (.int .i64) x31 .dp, bx [zi x86, zs x87, zi x88, zi x89, zi x90, zb x91, .v (.sl (.int .i64)) x92] 66]⟩ ∧ F106_j1 N x31 x86 x87 x88 x89 x90 x91 x92 x93 x94 = some r) ?_ ?_
  ·refine nR K (tn 2) ?_
   refine cnd h ?_ ?_<;>intro h
   ·refine VW.skip ?_
    exact arv [.ren [7, 11, 37, 51] [0, 1]] ⟨(a1.getD a2.toNat D64).1, (a1.getD a2.toNat D64).2.1, (a1.getD a2.toNat D64).2.2.1, (a1.getD a2.toNat D64).2.2.2.1, (a1.getD a2.toNat D64).2.2.2.2.1, (a1.getD a2.toNat D64).2.2.2.2.2.1, (a1.getD a2.toNat D64).2.2.2.2.2.2, (a1.getD a2.toNat D64).1, (((a1.getD a2.toNat D64).1) == (1 : Int)), rfl, h⟩
   refine nE K (tn 2) ?_
   exact arv [.ren [7, 11, 37, 51] [0, 1]] ⟨(a1.getD a2.toNat D64).1, (a1.getD a2.toNat D64).2.1, (a1.getD a2.toNat D64).2.2.1, (a1.getD a2.toNat D64).2.2.2.1, (a1.getD a2.toNat D64).2.2.2.2.1, (a1.getD a2.toNat D64).2.2.2.2.2.1, (a1.getD a2.toNat D64).2.2.2.2.2.2, (a1.getD a2.toNat D64).1, (((a1.getD a2.toNat D64).1) == (5 : Int)), rfl, h⟩
  rintro s ⟨x86, x87, x88, x89, x90, x91, x92, x93, x94, rfl, h⟩
  unfold F106_j1 at h
  refine cnd h ?_ ?_<;>intro h
  ·refine sq ?_
   obtain⟨g95,h⟩:=gS h
   obtain⟨g96,h⟩:=gS h
   refine dr K [] [] [] [7, 59] [0] (pu 3 (an g95 (an g96 (tn 1)))) trivial ?_
   refine cnd h ?_ ?_<;>intro h
   ·refine nR K (tn 1) ?_
    cases h; exact VW.ret (rt [])
   refine VW.skip ?_
   exact arv [.ren [7] [0]] ⟨rfl, h⟩
  refine nR K (tn 2) ?_
  refine cnd h ?_ ?_<;>intro h
  ·refine sq <| sq ?_
   obtain⟨y100,hy100,h⟩:=aS h
   obtain⟨g101,h⟩:=gS h
   obtain⟨g102,h⟩:=gS h
   refine dr K [(2, .cl [] (some 64) [.lf (.v (.int .i64) y100)])] [(2, 0)] [] [11, 68] [1] (pu 4 (an g101 (an g102 (tn 1)))) ⟨qC false [.t (.sl (.int .i64))] [] [] (some 64) K (ok134 N _ hy100), trivial⟩ ?_
   refine cnd h ?_ ?_<;>intro h
   ·refine nR K (tn 1) ?_
    cases h; exact VW.ret (rt [])
   refine VW.skip <| nR K (tn 4) ?_
   cases h; exact VW.ret (rt [])
  refine nR K (tn 2) ?_
  refine cnd h ?_ ?_<;>intro h
  ·refine sq <| sq ?_
   obtain⟨g113,h⟩:=gS h
   obtain⟨g114,h⟩:=gS h
   rcases Bool.eq_false_or_eq_true (decide (x88 ≥ (x31.getD ((0 : Int).toNat) (Ty.dflt (.int .i64))))) with hb115 | hb115
   ·replace h := cond_t h hb115
    refine dr K [(6, .lit true)] [(6, 0)] [] [7, 97] [0] (pu 3 (an g113 (an g114 (tn 19)))) ⟨qB 80 hb115 K trivial, trivial⟩ ?_
    refine VW.cond (b := true) (by kernel_rfl) (fun _ => ?_) (fun h' => nomatch h')
    refine nR K (tn 1) ?_
    cases h; exact VW.ret (rt [])
   replace h := cond_f h hb115
   obtain⟨g116,h⟩:=gS h
   obtain⟨g117,h⟩:=gS h
   rcases Bool.eq_false_or_eq_true (decide (x90 ≥ (x31.getD ((1 : Int).toNat) (Ty.dflt (.int .i64))))) with hb118 | hb118
   ·replace h := cond_t h hb118
    refine dr K [(6, .lit false), (14, .lit true)] [(6, 0), (14, 0)] [] [7, 97] [0] (pu 3 (an g113 (an g114 (pu 5 (an g116 (an g117 (tn 12))))))) ⟨qB 80 hb115 K trivial, qB 88 hb118 K trivial, trivial⟩ ?_
    refine VW.cond (b := true) (by kernel_rfl) (fun _ => ?_) (fun h' => nomatch h')
    refine nR K (tn 1) ?_
    cases h; exact VW.ret (rt [])
   replace h := cond_f h hb118
   obtain⟨g119,h⟩:=gS h
   obtain⟨g120,h⟩:=gS h
   obtain⟨g121,h⟩:=gS h
   obtain⟨g122,h⟩:=gS h
   refine dr K [(6, .lit false), (14, .lit false)] [(6, 0), (14, 0)] [] [7, 97] [0] (pu 3 (an g113 (an g114 (pu 5 (an g116 (an g117 (pu 4 (an g119 (an g120 (pu 1 (an g121 (an g122 (tn 3))))))))))))) ⟨qB 80 hb115 K trivial, qB 88 hb118 K trivial, trivial⟩ ?_
   refine cnd h ?_ ?_<;>intro h
   ·refine nR K (tn 1) ?_
    cases h; exact VW.ret (rt [])
   refine VW.skip <| sq ?_
   obtain⟨g123,h⟩:=gS h
   obtain⟨g124,h⟩:=gS h
   obtain⟨g125,h⟩:=gS h
   obtain⟨g126,h⟩:=gS h
   refine dr K [] [] [] [6] [] (pu 1 (an g123 (an g124 (pu 1 (an g125 (an g126 (tn 2))))))) trivial ?_
   cases h; exact VW.ret (rt [])
  refine nR K (tn 2) ?_
  refine cnd h ?_ ?_<;>intro h
  ·refine sq ?_
   obtain⟨g127,h⟩:=gS h
   obtain⟨g128,h⟩:=gS h
   obtain⟨g129,h⟩:=gS h
   obtain⟨g130,h⟩:=gS h
   refine dr K [] [] [] [7, 113] [0] (pu 1 (an g127 (an g128 (pu 1 (an g129 (an g130 (tn 1))))))) trivial ?_
   refine cnd h ?_ ?_<;>intro h
   ·refine nR K (tn 1) ?_
    cases h; exact VW.ret (rt [])
   refine VW.skip ?_
   exact arv [.ren [7] [0]] ⟨rfl, h⟩
  refine VW.skip ?_
  exact arv [.ren [7] [0]] ⟨rfl, h⟩
 rintro s ⟨rfl, h⟩
 unfold F106_j0 at h
 obtain⟨g81,h⟩:=gS h
 obtain⟨g82,h⟩:=gS h
 refine nR K (pu 1 (an g81 (an g82 (tn 1)))) ?_
 cases h; exact VW.ret (rt [])
def F106_r (N : Nat) := loopF (F106_b N) (fun _ _ _ => none)
theorem F106_s N {k} (hk : 0 < k) a0 a1 a2 : F106_r N k a0 a1 a2 = F106_b N (F106_r N (k - 1)) a0 a1 a2 := by cases k;cases hk;rfl
def F106 (N : Nat) : (List Z75) → (List Z64) → Int → Option (Int) := F106_r N N
theorem ok106_k (N : Nat) : ∀ (k : Nat) (a0 : (List Z75)) (a1 : (List Z64)) (a2 : Int) (r : Int), loopF (F106_b N) (fun _ _ _ => none) k a0 a1 a2 = some r → Con prog 106 [Vv (.sl Y75) a0, Vv (.sl Y64) a1, I a2] [.lf (.v (.int .i64) r)]
 | 0, a0, a1, a2, r, h => nomatch (show (none : Option (Int)) = some r from h)
 | k + 1, a0, a1, a2, r, h => ok106_b N _ (ok106_k N k) a0 a1 a2 h
theorem ok106 N a0 a1 a2 {r} (h : F106 N a0 a1 a2 = some r) : Con prog 106 [Vv (.sl Y75) a0, Vv (.sl Y64) a1, I a2] [.lf (.v (.int .i64) r)] := ok106_k N N a0 a1 a2 r h
def F75 (N : Nat) (a0 : (List Z75)) (a1 : (List Z64)) : Option (Int) :=
  andO (F40 N a0) fun y3 => cond (!y3) (some (-1 : Int)) (andO (F77 N a1) fun y4 => cond (!y4) (some (-1 : Int)) (andO (F106 N a0 a1 (0 : Int)) fun y5 => some y5))
theorem ok75 N a0 a1 {r} (h : F75 N a0 a1 = some r) : Con prog 75 [Vv (.sl Y75) a0, Vv (.sl Y64) a1] [.lf (.v (.int .i64) r)] := by
 refine ctr [.lf (.v (.int .i64))] K func75 rfl fun w0 E0 ht => ?_
 unfold F75 at h
 show VW _ _ _ _ _ (retQ _ _ _ _) _
 refine nR K (tn 1) <| sq <| sq <| VW.region <| nG K 1 (tn 1) ?_
 obtain⟨y3,hy,h⟩:=aS h
 refine clc false [.t (.sl Y75)] [] (some 6) K (ok40 N _ hy) <| nG K 2 (tn 2) ?_
 refine spC 8 h ?_ ?_<;>intro h
 ·refine nN K (tn 4) ?_
  refine VW.cond (b := true) (by kernel_rfl) (fun _ => ?_) (fun h' => nomatch h')
  refine nR K (tn 1) ?_
  cases h; exact VW.ret (rt [])
 refine nG K 1 (tn 1) <| VO.on (j := 3) (want := false) (d := 8) (b := false) rfl rfl rfl (by kernel_rfl) rfl ?_
 obtain⟨y4,hy,h⟩:=aS h
 refine clc false [.t (.sl Y64)] [] (some 10) K (ok77 N _ hy) <| nN K (tn 2) ?_
 refine cnd h ?_ ?_<;>intro h
 ·refine nR K (tn 1) ?_
  cases h; exact VW.ret (rt [])
 refine VW.skip <| sq <| VW.region <| nG K 2 (tn 2) ?_
 obtain⟨y5,hy,h⟩:=aS h
 refine clc false [.t (.sl Y75), .t (.sl Y64), .t (.int .i64)] [] (some 15) K (ok106 N _ _ _ hy) <| nN K (tn 1) ?_
 cases h; exact VW.ret (rt [])
def F43 (N : Nat) (a0 : (List Z75)) (a1 : (List Z64)) : Option (Bool) :=
  andO (F75 N a0 a1) fun y1 => some (decide (y1 ≥ (0 : Int)))
theorem ok43 N a0 a1 {r} (h : F43 N a0 a1 = some r) : Con prog 43 [Vv (.sl Y75) a0, Vv (.sl Y64) a1] [.lf (.v .bool r)] := by
 refine ctr [.lf (.v .bool)] K func43 rfl fun w0 E0 ht => ?_
 unfold F43 at h
 show VW _ _ _ _ _ (retQ _ _ _ _) _
 refine nR K (tn 1) <| sq <| VW.region <| nG K 2 (tn 2) ?_
 obtain⟨y1,hy,h⟩:=aS h
 refine clc false [.t (.sl Y75), .t (.sl Y64)] [] (some 7) K (ok75 N _ _ hy) <| nN K (tn 2) ?_
 cases h; exact VW.ret (rt [])
def F107_j0 (N : Nat) (x10 : Int) (x11 : (List Int)) : Option ((List Int)) :=
  gd (x11.length + ([(IntKind.u8.wrap x10)]).length ≤ lim (.int .u8)) (some (x11 ++ ([(IntKind.u8.wrap x10)])))
def F107_l0_b (N : Nat) (nx18 : Int → (List Int) → Option ((List Int))) (x15 : Int) (x16 : (List Int)) : Option ((List Int)) :=
  cond (decide (x15 ≥ (128 : Int))) (gd (x16.length + ([(IntKind.u8.wrap (IntKind.i64.wrap ((Int.tmod x15 (128 : Int)) + (128 : Int))))]).length ≤ lim (.int .u8)) (nx18 (IntKind.i64.wrap (Int.tdiv x15 (128 : Int))) (x16 ++ ([(IntKind.u8.wrap (IntKind.i64.wrap ((Int.tmod x15 (128 : Int)) + (128 : Int))))])))) (F107_j0 N x15 x16)
def F107_l0 (N : Nat) := loopF (F107_l0_b N) (fun _ _ => none)
theorem F107_l0_s N {k} (hk : 0 < k) x15 x16 : F107_l0 N k x15 x16 = F107_l0_b N (F107_l0 N (k - 1)) x15 x16 := by cases k;cases hk;rfl
def F107_j1 (N : Nat) (x3 : Int) : Option ((List Int)) :=
  F107_l0 N N x3 ([])
def F107 (N : Nat) (a0 : Int) : Option ((List Int)) :=
  andO (F135 N a0) fun y2 => cond (!y2) (some ([])) (cond (decide (a0 < (0 : Int))) (F107_j1 N (IntKind.i64.wrap ((IntKind.i64.wrap ((-2 : Int) * a0)) - (1 : Int)))) (F107_j1 N (IntKind.i64.wrap ((2 : Int) * a0))))
theorem ok107 N a0 {r} (h : F107 N a0 = some r) : Con prog 107 [I a0] [.lf (.own (.int .u8) r .dp)] := by
 refine ctr [.lf (.own (.int .u8) .dp)] K func107 rfl fun w0 E0 ht => ?_
 unfold F107 at h
 show VW _ _ _ _ _ (retQ _ _ _ _) _
 refine nR K (tn 1) <| sq <| sq <| VW.region <| nG K 1 (tn 1) ?_
 obtain⟨y2,hy,h⟩:=aS h
 refine clc false [.t (.int .i64)] [] (some 6) K (ok135 N _ hy) <| nN K (tn 1) ?_
 refine cnd h ?_ ?_<;>intro h
 ·refine nR K (tn 1) ?_
  cases h; exact VW.ret (rt [none])
 refine VW.skip <| nR K (tn 3) ?_
 refine VW.join (fun s => ∃ x3, s = ⟨[(3, I x3)], []⟩ ∧ F107_j1 N x3 = some r) ?_ ?_
 ·refine nR K (tn 2) ?_
  refine cnd h ?_ ?_<;>intro h
  ·refine nE K (tn 4) ?_
   exact arv [.ren [3] []] ⟨(wr ((wr ((-2 : Int) * a0)) - (1 : Int))), rfl, h⟩
  refine VW.skip ?_
  exact arv [.ren [3] []] ⟨(wr ((2 : Int) * a0)), rfl, h⟩
 rintro s ⟨x3, rfl, h⟩
 unfold F107_j1 at h
 refine nR K (tn 1) ?_
 refine VW.join (fun s => ∃ x10 x11, s = ⟨[(3, I x10), (4, hh 0)], [ar 0 (.int .u8) x11 .dp]⟩ ∧ F107_j0 N x10 x11 = some r) ?_ ?_
 ·refine VW.block <| lop (fun k s => ∃ x15 x16, s = ⟨[(3, I x15), (4, hh 0)], [ar 0 (.int .u8) x16 .dp]⟩ ∧ F107_l0 N k x15 x16 = some r) N [.nilS 4 (.int .u8) .dp, .ren [3, 4] [0]] ⟨x3, [], rfl, h⟩ ?_
  rintro k18 s ⟨x15, x16, rfl, h⟩
  cases k18 with
  | zero => cases show none = some r from h
  | succ k18 =>
   replace h : F107_l0_b N (F107_l0 N k18) x15 x16 = some r := h
   unfold F107_l0_b at h
   refine sq <| nR K (tn 2) ?_
   refine cnd h ?_ ?_<;>intro h
   ·refine VW.skip <| VW.block ?_
    obtain⟨g19,h⟩:=gS h
    refine nR K (pu 2 (an (show ((128 : Int) ≠ 0) from by decide) (pu 3 (an g19 (tn 1))))) <| nE K (pu 1 (an (show ((128 : Int) ≠ 0) from by decide) (tn 1))) ?_
    exact aro [.ren [3, 4] [0]] ⟨(wr (Int.tdiv x15 (128 : Int))), (x16 ++ ([(IntKind.u8.wrap (wr ((Int.tmod x15 (128 : Int)) + (128 : Int))))])), rfl, h⟩
   refine VW.exit ?_
   exact arv [.ren [3, 4] [0]] ⟨x15, x16, rfl, h⟩
 rintro s ⟨x10, x11, rfl, h⟩
 unfold F107_j0 at h
 obtain⟨g12,h⟩:=gS h
 refine nR K (pu 4 (an g12 (tn 1))) ?_
 cases h; exact VW.ret (rt [some 0])
def F136 (N : Nat) (a0 : ByteArray) : Option ((List Int)) :=
  andO (F74 N a0) fun y2 => cond (!y2) (some ([])) (andO (F107 N (a0.size : Int)) fun y3 => gd (y3.length + a0.size ≤ lim (.int .u8)) (some (y3 ++ (bytesOf a0))))
theorem ok136 N a0 {r} (h : F136 N a0 = some r) : Con prog 136 [S a0] [.lf (.own (.int .u8) r .dp)] := by
 refine ctr [.lf (.own (.int .u8) .dp)] K func136 rfl fun w0 E0 ht => ?_
 unfold F136 at h
 show VW _ _ _ _ _ (retQ _ _ _ _) _
 refine nR K (tn 1) <| sq <| sq <| VW.region <| nG K 1 (tn 1) ?_
 obtain⟨y2,hy,h⟩:=aS h
 refine clc false [.t .str] [] (some 4) K (ok74 N _ hy) <| nN K (tn 1) ?_
 refine cnd h ?_ ?_<;>intro h
 ·refine nR K (tn 1) ?_
  cases h; exact VW.ret (rt [none])
 refine VW.skip <| sq <| VW.region <| nG K 2 (tn 2) ?_
 obtain⟨y3,hy,h⟩:=aS h
 refine clc false [.t (.int .i64)] [] (some 8) K (ok107 N _ hy) <| nG K 1 (tn 1) ?_
 obtain⟨g4,h⟩:=gS h
 refine VO.appS (d := 10) (φ := y3.length + a0.size ≤ lim (.int .u8)) (v := .lf (.hd 0 1 none)) (H' := [ar 1 (.int .u8) (y3 ++ (bytesOf a0)) .dp]) K (by kernel_rfl) g4 <| nN K (tn 1) ?_
 cases h; exact VW.ret (rt [some 0])
def F137_j0 (N : Nat) (x24 : (List Int)) : Option ((List Int)) :=
  some x24
def F137_l0_b (N : Nat) (a0 : (List Int)) (nx42 : (List Int) → Int → Int → Option ((List Int))) (x33 : (List Int)) (x34 : Int) (x35 : Int) : Option ((List Int)) :=
  cond (decide (x35 < x34)) (gd (InR x35 a0.length) (andO (F107 N (a0.getD x35.toNat (Ty.dflt (.int .i64)))) fun y47 => gd (x33.length + y47.length ≤ lim (.int .u8)) (nx42 (x33 ++ y47) x34 (IntKind.i64.wrap (x35 + (1 : Int)))))) (F137_j0 N x33)
def F137_l0 (N : Nat) (a0 : (List Int)) := loopF (F137_l0_b N a0) (fun _ _ _ => none)
theorem F137_l0_s N a0 {k} (hk : 0 < k) x33 x34 x35 : F137_l0 N a0 k x33 x34 x35 = F137_l0_b N a0 (F137_l0 N a0 (k - 1)) x33 x34 x35 := by cases k;cases hk;rfl
def F137 (N : Nat) (a0 : (List Int)) : Option ((List Int)) :=
  F137_l0 N a0 N ([]) (a0.length : Int) (0 : Int)
theorem ok137 N a0 {r} (h : F137 N a0 = some r) : Con prog 137 [Vv (.sl (.int .i64)) a0] [.lf (.own (.int .u8) r .dp)] := by
 refine ctr [.lf (.own (.int .u8) .dp)] K func137 rfl fun w0 E0 ht => ?_
 unfold F137 at h
 show VW _ _ _ _ _ (retQ _ _ _ _) _
 refine nR K (tn 1) <| nR K (tn 1) ?_
 refine VW.join (fun s => ∃ x24, s = ⟨[(3, hh 0)], [ar 0 (.int .u8) x24 .dp]⟩ ∧ F137_j0 N x24 = some r) ?_ ?_
 ·refine nR K (tn 3) <| VW.block <| lop (fun k s => ∃ x33 x34 x35, s = ⟨[(3, hh 0), (6, Vv (.sl (.int .i64)) a0), (7, I x34), (8, I x35)], [ar 0 (.int .u8) x33 .dp]⟩ ∧ F137_l0 N a0 k x33 x34 x35 = some r) N [.nilS 3 (.int .u8) .dp, .ren [3, 6, 7, 8] [0]] ⟨[], (a0.length : Int), (0 : Int), rfl, h⟩ ?_
  rintro k42 s ⟨x33, x34, x35, rfl, h⟩
  cases k42 with
  | zero => cases show none = some r from h
  | succ k42 =>
   replace h : F137_l0_b N a0 (F137_l0 N a0 k42) x33 x34 x35 = some r := h
   unfold F137_l0_b at h
   refine nR K (tn 1) <| sq ?_
   refine cnd h ?_ ?_<;>intro h
   ·refine VW.skip <| sq <| VW.block ?_
    obtain⟨g46,h⟩:=gS h
    refine nR K (an g46 (tn 2)) <| VW.region <| nG K 2 (tn 2) ?_
    obtain⟨y47,hy,h⟩:=aS h
    refine clc false [.t (.int .i64)] [] (some 14) K (ok107 N _ hy) ?_
    obtain⟨g48,h⟩:=gS h
    refine nN K (an g48 (tn 1)) <| nE K (tn 2) ?_
    exact aro [.ren [3, 6, 7, 8] [0]] ⟨(x33 ++ y47), x34, (wr (x35 + (1 : Int))), rfl, h⟩
   refine VW.exit ?_
   exact arv [.ren [3] [0]] ⟨x33, rfl, h⟩
 rintro s ⟨x24, rfl, h⟩
 unfold F137_j0 at h
 refine nR K (tn 2) ?_
 cases h; exact VW.ret (rt [some 0])
def F138 (N : Nat) (a0 : Bool) : Option (Int) :=
  cond a0 (some (1 : Int)) (some (0 : Int))
theorem ok138 N a0 {r} (h : F138 N a0 = some r) : Con prog 138 [B a0] [.lf (.v (.int .i64) r)] := by
 refine ctr [.lf (.v (.int .i64))] K func138 rfl fun w0 E0 ht => ?_
 unfold F138 at h
 show VW _ _ _ _ _ (retQ _ _ _ _) _
 refine nR K (tn 1) <| sq <| nR K (tn 1) ?_
 refine cnd h ?_ ?_<;>intro h
 ·refine nR K (tn 1) ?_
  cases h; exact VW.ret (rt [])
 refine VW.skip <| nR K (tn 1) ?_
 cases h; exact VW.ret (rt [])
def F139_j0 (N : Nat) (x37 : (List Int)) : Option ((List Int)) :=
  some x37
def F139_l0_b (N : Nat) (a0 : (List Int)) (nx63 : (List Int) → Int → Int → Option ((List Int))) (x50 : (List Int)) (x51 : Int) (x52 : Int) : Option ((List Int)) :=
  cond (decide (x52 < x51)) (gd (InR x52 a0.length) (andO (F135 N (a0.getD x52.toNat (Ty.dflt (.int .i64)))) fun y71 => cond (!y71) (some ([])) (andO (F107 N (a0.getD x52.toNat (Ty.dflt (.int .i64)))) fun y72 => gd (x50.length + y72.length ≤ lim (.int .u8)) (nx63 (x50 ++ y72) x51 (IntKind.i64.wrap (x52 + (1 : Int))))))) (F139_j0 N x50)
def F139_l0 (N : Nat) (a0 : (List Int)) := loopF (F139_l0_b N a0) (fun _ _ _ => none)
theorem F139_l0_s N a0 {k} (hk : 0 < k) x50 x51 x52 : F139_l0 N a0 k x50 x51 x52 = F139_l0_b N a0 (F139_l0 N a0 (k - 1)) x50 x51 x52 := by cases k;cases hk;rfl
def F139 (N : Nat) (a0 : (List Int)) : Option ((List Int)) :=
  cond (decide ((a0.length : Int) > (300 : Int))) (some ([])) (andO (F107 N (a0.length : Int)) fun y1 => F139_l0 N a0 N y1 (a0.length : Int) (0 : Int))
theorem ok139 N a0 {r} (h : F139 N a0 = some r) : Con prog 139 [Vv (.sl (.int .i64)) a0] [.lf (.own (.int .u8) r .dp)] := by
 refine ctr [.lf (.own (.int .u8) .dp)] K func139 rfl fun w0 E0 ht => ?_
 unfold F139 at h
 show VW _ _ _ _ _ (retQ _ _ _ _) _
 refine nR K (tn 1) <| sq <| nR K (tn 3) ?_
 refine cnd h ?_ ?_<;>intro h
 ·refine nR K (tn 1) ?_
  cases h; exact VW.ret (rt [none])
 refine VW.skip <| sq <| VW.region <| nG K 2 (tn 2) ?_
 obtain⟨y1,hy,h⟩:=aS h
 refine clc false [.t (.int .i64)] [] (some 11) K (ok107 N _ hy) <| nN K (tn 1) ?_
 refine VW.join (fun s => ∃ x37, s = ⟨[(3, hh 0)], [ar 0 (.int .u8) x37 .dp]⟩ ∧ F139_j0 N x37 = some r) ?_ ?_
 ·refine nR K (tn 3) <| VW.block <| lop (fun k s => ∃ x50 x51 x52, s = ⟨[(3, hh 0), (12, Vv (.sl (.int .i64)) a0), (13, I x51), (14, I x52)], [ar 0 (.int .u8) x50 .dp]⟩ ∧ F139_l0 N a0 k x50 x51 x52 = some r) N [.ren [3, 12, 13, 14] [0]] ⟨y1, (a0.length : Int), (0 : Int), rfl, h⟩ ?_
  rintro k63 s ⟨x50, x51, x52, rfl, h⟩
  cases k63 with
  | zero => cases show none = some r from h
  | succ k63 =>
   replace h : F139_l0_b N a0 (F139_l0 N a0 k63) x50 x51 x52 = some r := h
   unfold F139_l0_b at h
   refine nR K (tn 1) <| sq ?_
   refine cnd h ?_ ?_<;>intro h
   ·refine VW.skip <| sq <| VW.block ?_
    obtain⟨g69,h⟩:=gS h
    refine nR K (an g69 (tn 2)) <| sq <| sq <| VW.region <| nG K 1 (tn 1) ?_
    obtain⟨y71,hy,h⟩:=aS h
    refine clc false [.t (.int .i64)] [] (some 19) K (ok135 N _ hy) <| nN K (tn 1) ?_
    refine cnd h ?_ ?_<;>intro h
    ·refine nR K (tn 1) ?_
     cases h; exact VW.ret (rt [none])
    refine VW.skip <| VW.region <| nG K 2 (tn 2) ?_
    obtain⟨y72,hy,h⟩:=aS h
    refine clc false [.t (.int .i64)] [] (some 23) K (ok107 N _ hy) ?_
    obtain⟨g73,h⟩:=gS h
    refine nN K (an g73 (tn 1)) <| nE K (tn 2) ?_
    exact aro [.ren [3, 12, 13, 14] [0]] ⟨(x50 ++ y72), x51, (wr (x52 + (1 : Int))), rfl, h⟩
   refine VW.exit ?_
   exact arv [.ren [3] [0]] ⟨x50, rfl, h⟩
 rintro s ⟨x37, rfl, h⟩
 unfold F139_j0 at h
 refine nR K (tn 2) ?_
 cases h; exact VW.ret (rt [some 0])
def F108 (N : Nat) (a0 : Z64) : Option ((List Int)) :=
  andO (F111 N a0) fun y2 => cond (!y2) (some ([])) (andO (F107 N a0.1) fun y3 => cond (a0.1 == (0 : Int)) (andO (F136 N a0.2.1) fun y18 => gd (y3.length + y18.length ≤ lim (.int .u8)) (some (y3 ++ y18))) (cond (a0.1 == (1 : Int)) (andO (F138 N a0.2.2.2.2.2.1) fun y20 => andO (F137 N ([a0.2.2.1, a0.2.2.2.1, y20, a0.2.2.2.2.1])) fun y21 => gd (y3.length + y21.length ≤ lim (.int .u8)) (some (y3 ++ y21))) (cond (a0.1 == (2 : Int)) (andO (F139 N a0.2.2.2.2.2.2) fun y23 => gd (y3.length + y23.length ≤ lim (.int .u8)) (some (y3 ++ y23))) (cond (a0.1 == (3 : Int)) (andO (F137 N ([a0.2.2.1, a0.2.2.2.2.1])) fun y25 => gd (y3.length + y25.length ≤ lim (.int .u8)) (some (y3 ++ y25))) (cond (a0.1 == (5 : Int)) (andO (F137 N ([a0.2.2.1])) fun y27 => gd (y3.length + y27.length ≤ lim (.int .u8)) (some (y3 ++ y27))) (cond (a0.1 == (6 : Int)) (andO (F138 N a0.2.2.2.2.2.1) fun y29 => andO (F137 N ([y29, a0.2.2.2.2.1])) fun y30 => gd (y3.length + y30.length ≤ lim (.int .u8)) (some (y3 ++ y30))) (some y3)))))))
theorem ok108 N a0 {r} (h : F108 N a0 = some r) : Con prog 108 [.agg (lv Y64 a0)] [.lf (.own (.int .u8) r .dp)] := by
 refine ctr [.lf (.own (.int .u8) .dp)] K func108 rfl fun w0 E0 ht => ?_
 unfold F108 at h
 show VW _ _ _ _ _ (retQ _ _ _ _) _
 refine nR K (tn 2) <| sq <| sq <| VW.region <| nG K 1 (tn 1) ?_
 obtain⟨y2,hy,h⟩:=aS h
 refine clc false [.t Y64] [] (some 5) K (ok111 N _ hy) <| nN K (tn 1) ?_
 refine cnd h ?_ ?_<;>intro h
 ·refine nR K (tn 1) ?_
  cases h; exact VW.ret (rt [none])
 refine VW.skip <| sq <| VW.region <| nG K 2 (tn 2) ?_
 obtain⟨y3,hy,h⟩:=aS h
 refine clc false [.t (.int .i64)] [] (some 9) K (ok107 N _ hy) <| nN K (tn 1) <| sq <| nR K (tn 2) <| VW.block <| nR K (tn 2) ?_
 refine cnd h ?_ ?_<;>intro h
 ·refine sq <| VW.region <| nG K 3 (tn 3) ?_
  obtain⟨y18,hy,h⟩:=aS h
  refine clc false [.t .str] [] (some 17) K (ok136 N _ hy) ?_
  obtain⟨g19,h⟩:=gS h
  refine nN K (an g19 (tn 1)) ?_
  cases h; exact VW.ret (rt [some 1])
 refine nR K (tn 2) ?_
 refine cnd h ?_ ?_<;>intro h
 ·refine sq ?_
  obtain⟨y20,hy20,h⟩:=aS h
  obtain⟨y21,hy21,h⟩:=aS h
  obtain⟨g22,h⟩:=gS h
  refine dr K [(7, .cl [] (some 28) [.lf (.v (.int .i64) y20)]), (11, .cl [] (some 32) [.lf (.own (.int .u8) y21 .dp)])] [(7, 0), (11, 1)] [10, 11, 12] [2] [1] (pu 12 (an g22 (tn 1))) ⟨qC false [.t .bool] [] [] (some 28) K (ok138 N _ hy20), qC true [.t (.sl (.int .i64))] [] [] (some 32) K (ok137 N _ hy21), trivial⟩ ?_
  cases h; exact VW.ret (rt [some 0])
 refine nR K (tn 2) ?_
 refine cnd h ?_ ?_<;>intro h
 ·refine sq <| VW.region <| nG K 3 (tn 3) ?_
  obtain⟨y23,hy,h⟩:=aS h
  refine clc false [.t (.sl (.int .i64))] [] (some 39) K (ok139 N _ hy) ?_
  obtain⟨g24,h⟩:=gS h
  refine nN K (an g24 (tn 1)) ?_
  cases h; exact VW.ret (rt [some 1])
 refine nR K (tn 2) ?_
 refine cnd h ?_ ?_<;>intro h
 ·refine sq <| VW.region <| nG K 6 (tn 6) ?_
  obtain⟨y25,hy,h⟩:=aS h
  refine clc true [.t (.sl (.int .i64))] [] (some 49) K (ok137 N _ hy) ?_
  obtain⟨g26,h⟩:=gS h
  refine nN K (an g26 (tn 1)) ?_
  cases h; exact VW.ret (rt [some 1])
 refine nR K (tn 2) ?_
 refine cnd h ?_ ?_<;>intro h
 ·refine sq <| VW.region <| nG K 4 (tn 4) ?_
  obtain⟨y27,hy,h⟩:=aS h
  refine clc true [.t (.sl (.int .i64))] [] (some 57) K (ok137 N _ hy) ?_
  obtain⟨g28,h⟩:=gS h
  refine sN K [2] [1] ⟨[(2, hh 0)], [ar 0 (.int .u8) (y3 ++ y27) .dp]⟩ (an g28 (tn 1)) ?_
  cases h; exact VW.ret (rt [some 0])
 refine nR K (tn 2) ?_
 refine cnd h ?_ ?_<;>intro h
 ·refine sq ?_
  obtain⟨y29,hy29,h⟩:=aS h
  obtain⟨y30,hy30,h⟩:=aS h
  obtain⟨g31,h⟩:=gS h
  refine dr K [(3, .cl [] (some 64) [.lf (.v (.int .i64) y29)]), (7, .cl [] (some 68) [.lf (.own (.int .u8) y30 .dp)])] [(3, 0), (7, 1)] [6, 7, 8] [2] [1] (pu 8 (an g31 (tn 1))) ⟨qC false [.t .bool] [] [] (some 64) K (ok138 N _ hy29), qC true [.t (.sl (.int .i64))] [] [] (some 68) K (ok137 N _ hy30), trivial⟩ ?_
  cases h; exact VW.ret (rt [some 0])
 refine VW.skip <| sR K [2] [1] ⟨[(2, hh 0)], [ar 0 (.int .u8) y3 .dp]⟩ (tn 2) ?_
 cases h; exact VW.ret (rt [some 0])
def F161_j0 (N : Nat) (x4 : (List Int)) : Option ((List Int)) :=
  some x4
def F161 (N : Nat) (a0 : (List Int)) (a1 : Int) : Option ((List Int)) :=
  cond (decide (a1 < (0 : Int))) (none) (cond (decide ((IntKind.i64.wrap (a1 - (IntKind.i64.wrap ((0 : Int) - (0 : Int))))) > (0 : Int))) (gd ((0 : Int) = (0 : Int)) (gd (0 ≤ (IntKind.i64.wrap (a1 - (IntKind.i64.wrap ((0 : Int) - (0 : Int))))) ∧ (IntKind.i64.wrap (a1 - (IntKind.i64.wrap ((0 : Int) - (0 : Int))))) ≤ (lim (.int .u8) : Int)) (gd (0 ≤ (0 : Int) ∧ (0 : Int) ≤ ((List.replicate (IntKind.i64.wrap (a1 - (IntKind.i64.wrap ((0 : Int) - (0 : Int))))).toNat (Ty.dflt (.int .u8))).length : Int)) (F161_j0 N ((List.replicate (IntKind.i64.wrap (a1 - (IntKind.i64.wrap ((0 : Int) - (0 : Int))))).toNat (Ty.dflt (.int .u8))).take ((0 : Int).toNat)))))) (F161_j0 N ([])))
theorem ok161 N a0 a1 {r} (h : F161 N a0 a1 = some r) : Con prog 161 [.lf (.nil), I a1] [.lf (.own (.int .u8) r .dp)] := by
 refine ctr [.lf (.own (.int .u8) .dp)] K func161 rfl fun w0 E0 ht => ?_
 unfold F161 at h
 show VW _ _ _ _ _ (retQ _ _ _ _) _
 refine nR K (tn 1) <| sq <| nR K (tn 2) ?_
 refine cnd h ?_ ?_<;>intro h
 ·exact nomatch h
 refine VW.skip ?_
 refine VW.join (fun s => ∃ x4, s = ⟨[(0, hh 0)], [ar 0 (.int .u8) x4 .dp]⟩ ∧ F161_j0 N x4 = some r) ?_ ?_
 ·refine sq <| VW.region <| nG K 2 (tn 2) <| VO.capN (d := 10) (v := I (0 : Int)) K (by kernel_rfl) <| nN K (tn 5) <| nR K (tn 2) ?_
  refine cnd h ?_ ?_<;>intro h
  ·refine VW.region <| nG K 2 (tn 2) <| VO.capN (d := 19) (v := I (0 : Int)) K (by kernel_rfl) ?_
   obtain⟨g6,h⟩:=gS h
   refine VO.cutN (d := 20) (φ := (0 : Int) = (0 : Int)) (v := .lf .nil) K (by kernel_rfl) g6 <| nG K 1 (tn 1) ?_
   obtain⟨g7,h⟩:=gS h
   refine VO.appZ (d := 22) (φ := 0 ≤ (wr (a1 - (wr ((0 : Int) - (0 : Int))))) ∧ (wr (a1 - (wr ((0 : Int) - (0 : Int))))) ≤ (lim (.int .u8) : Int)) (v := hh 0) (H' := [ar 0 (.int .u8) (List.replicate (wr (a1 - (wr ((0 : Int) - (0 : Int))))).toNat (Ty.dflt (.int .u8))) .dp]) K (by kernel_rfl) g7 ?_
   obtain⟨g8,h⟩:=gS h
   refine nN K (pu 2 (an g8 (tn 1))) ?_
   exact arv [.shr 0, .ren [0] [0]] ⟨((List.replicate (wr (a1 - (wr ((0 : Int) - (0 : Int))))).toNat (Ty.dflt (.int .u8))).take ((0 : Int).toNat)), rfl, h⟩
  refine VW.skip ?_
  exact arv [.nilS 0 (.int .u8) .dp, .ren [0] [0]] ⟨[], rfl, h⟩
 rintro s ⟨x4, rfl, h⟩
 unfold F161_j0 at h
 refine nR K (tn 2) ?_
 cases h; exact VW.ret (rt [some 0])
def F140_j0 (N : Nat) (x31 : (List Int)) : Option ((List Int)) :=
  some x31
def F140_l0_b (N : Nat) (a0 : (List (List Int))) (nx45 : (List Int) → Int → Int → Option ((List Int))) (x38 : (List Int)) (x39 : Int) (x40 : Int) : Option ((List Int)) :=
  cond (decide (x40 < x39)) (gd (InR x40 a0.length) (gd (x38.length + (a0.getD x40.toNat (Ty.dflt (.sl (.int .u8)))).length ≤ lim (.int .u8)) (nx45 (x38 ++ (a0.getD x40.toNat (Ty.dflt (.sl (.int .u8))))) x39 (IntKind.i64.wrap (x40 + (1 : Int)))))) (F140_j0 N x38)
def F140_l0 (N : Nat) (a0 : (List (List Int))) := loopF (F140_l0_b N a0) (fun _ _ _ => none)
theorem F140_l0_s N a0 {k} (hk : 0 < k) x38 x39 x40 : F140_l0 N a0 k x38 x39 x40 = F140_l0_b N a0 (F140_l0 N a0 (k - 1)) x38 x39 x40 := by cases k;cases hk;rfl
def F140_j1 (N : Nat) (a0 : (List (List Int))) (x12 : Int) : Option ((List Int)) :=
  andO (F161 N ([]) x12) fun y13 => F140_l0 N a0 N y13 (a0.length : Int) (0 : Int)
def F140_l1_b (N : Nat) (a0 : (List (List Int))) (nx59 : Int → Int → Int → Option ((List Int))) (x54 : Int) (x55 : Int) (x56 : Int) : Option ((List Int)) :=
  cond (decide (x56 < x55)) (gd (InR x56 a0.length) (cond (decide ((IntKind.i64.wrap (x54 + ((a0.getD x56.toNat (Ty.dflt (.sl (.int .u8)))).length : Int))) < (0 : Int))) (none) (nx59 (IntKind.i64.wrap (x54 + ((a0.getD x56.toNat (Ty.dflt (.sl (.int .u8)))).length : Int))) x55 (IntKind.i64.wrap (x56 + (1 : Int)))))) (F140_j1 N a0 x54)
def F140_l1 (N : Nat) (a0 : (List (List Int))) := loopF (F140_l1_b N a0) (fun _ _ _ => none)
theorem F140_l1_s N a0 {k} (hk : 0 < k) x54 x55 x56 : F140_l1 N a0 k x54 x55 x56 = F140_l1_b N a0 (F140_l1 N a0 (k - 1)) x54 x55 x56 := by cases k;cases hk;rfl
def F140 (N : Nat) (a0 : (List (List Int))) : Option ((List Int)) :=
  F140_l1 N a0 N (0 : Int) (a0.length : Int) (0 : Int)
theorem ok140 N a0 {r} (h : F140 N a0 = some r) : Con prog 140 [Vv (.sl (.sl (.int .u8))) a0] [.lf (.own (.int .u8) r .dp)] := by
 refine ctr [.lf (.own (.int .u8) .dp)] K func140 rfl fun w0 E0 ht => ?_
 unfold F140 at h
 show VW _ _ _ _ _ (retQ _ _ _ _) _
 refine nR K (tn 1) <| nR K (tn 1) ?_
 refine VW.join (fun s => ∃ x12, s = ⟨[(0, Vv (.sl (.sl (.int .u8))) a0), (3, I x12)], []⟩ ∧ F140_j1 N a0 x12 = some r) ?_ ?_
 ·refine nR K (tn 3) <| VW.block <| lop (fun k s => ∃ x54 x55 x56, s = ⟨[(0, Vv (.sl (.sl (.int .u8))) a0), (3, I x54), (9, Vv (.sl (.sl (.int .u8))) a0), (10, I x55), (11, I x56)], []⟩ ∧ F140_l1 N a0 k x54 x55 x56 = some r) N [.ren [0, 3, 9, 10, 11] []] ⟨(0 : Int), (a0.length : Int), (0 : Int), rfl, h⟩ ?_
  rintro k59 s ⟨x54, x55, x56, rfl, h⟩
  cases k59 with
  | zero => cases show none = some r from h
  | succ k59 =>
   replace h : F140_l1_b N a0 (F140_l1 N a0 k59) x54 x55 x56 = some r := h
   unfold F140_l1_b at h
   refine nR K (tn 1) <| sq ?_
   refine cnd h ?_ ?_<;>intro h
   ·refine VW.skip <| sq <| VW.block ?_
    obtain⟨g61,h⟩:=gS h
    refine nR K (an g61 (tn 2)) <| nR K (tn 5) <| nR K (tn 2) ?_
    refine cnd h ?_ ?_<;>intro h
    ·exact nomatch h
    refine VW.skip <| nE K (tn 2) ?_
    exact aro [.ren [0, 3, 9, 10, 11] []] ⟨(wr (x54 + ((a0.getD x56.toNat (Ty.dflt (.sl (.int .u8)))).length : Int))), x55, (wr (x56 + (1 : Int))), rfl, h⟩
   refine VW.exit ?_
   exact arv [.ren [0, 3] []] ⟨x54, rfl, h⟩
 rintro s ⟨x12, rfl, h⟩
 unfold F140_j1 at h
 refine sq <| VW.region <| nG K 1 (tn 1) ?_
 obtain⟨y13,hy,h⟩:=aS h
 refine clc false [.k, .t (.int .i64)] [] (some 24) K (ok161 N _ _ hy) <| nN K (tn 1) ?_
 refine VW.join (fun s => ∃ x31, s = ⟨[(6, hh 0)], [ar 0 (.int .u8) x31 .dp]⟩ ∧ F140_j0 N x31 = some r) ?_ ?_
 ·refine nR K (tn 3) <| VW.block <| lop (fun k s => ∃ x38 x39 x40, s = ⟨[(6, hh 0), (25, Vv (.sl (.sl (.int .u8))) a0), (26, I x39), (27, I x40)], [ar 0 (.int .u8) x38 .dp]⟩ ∧ F140_l0 N a0 k x38 x39 x40 = some r) N [.ren [6, 25, 26, 27] [0]] ⟨y13, (a0.length : Int), (0 : Int), rfl, h⟩ ?_
  rintro k45 s ⟨x38, x39, x40, rfl, h⟩
  cases k45 with
  | zero => cases show none = some r from h
  | succ k45 =>
   replace h : F140_l0_b N a0 (F140_l0 N a0 k45) x38 x39 x40 = some r := h
   unfold F140_l0_b at h
   refine nR K (tn 1) <| sq ?_
   refine cnd h ?_ ?_<;>intro h
   ·refine VW.skip <| sq <| VW.block ?_
    obtain⟨g48,h⟩:=gS h
    refine nR K (an g48 (tn 2)) ?_
    obtain⟨g49,h⟩:=gS h
    refine nE K (pu 2 (an g49 (tn 1))) <| nE K (tn 2) ?_
    exact aro [.ren [6, 25, 26, 27] [0]] ⟨(x38 ++ (a0.getD x40.toNat (Ty.dflt (.sl (.int .u8))))), x39, (wr (x40 + (1 : Int))), rfl, h⟩
   refine VW.exit ?_
   exact arv [.ren [6] [0]] ⟨x38, rfl, h⟩
 rintro s ⟨x31, rfl, h⟩
 unfold F140_j0 at h
 refine nR K (tn 2) ?_
 cases h; exact VW.ret (rt [some 0])
def F141_j0 (N : Nat) (x12 : Int) : Option (Int) :=
  some x12
def F141_l0_b (N : Nat) (a0 : (List Int)) (nx22 : Int → Int → Int → Option (Int)) (x17 : Int) (x18 : Int) (x19 : Int) : Option (Int) :=
  cond (decide (x19 < x18)) (gd (InR x19 a0.length) (nx22 (Int.tmod (IntKind.i64.wrap ((IntKind.i64.wrap ((269 : Int) * x17)) + (IntKind.i64.wrap (a0.getD x19.toNat (Ty.dflt (.int .u8)))))) (999983 : Int)) x18 (IntKind.i64.wrap (x19 + (1 : Int))))) (F141_j0 N x17)
def F141_l0 (N : Nat) (a0 : (List Int)) := loopF (F141_l0_b N a0) (fun _ _ _ => none)
theorem F141_l0_s N a0 {k} (hk : 0 < k) x17 x18 x19 : F141_l0 N a0 k x17 x18 x19 = F141_l0_b N a0 (F141_l0 N a0 (k - 1)) x17 x18 x19 := by cases k;cases hk;rfl
def F141 (N : Nat) (a0 : (List Int)) : Option (Int) :=
  F141_l0 N a0 N (5 : Int) (a0.length : Int) (0 : Int)
theorem ok141 N a0 {r} (h : F141 N a0 = some r) : Con prog 141 [Vv (.sl (.int .u8)) a0] [.lf (.v (.int .i64) r)] := by
 refine ctr [.lf (.v (.int .i64))] K func141 rfl fun w0 E0 ht => ?_
 unfold F141 at h
 show VW _ _ _ _ _ (retQ _ _ _ _) _
 refine nR K (tn 1) <| nR K (tn 1) ?_
 refine VW.join (fun s => ∃ x12, s = ⟨[(3, I x12)], []⟩ ∧ F141_j0 N x12 = some r) ?_ ?_
 ·refine nR K (tn 3) <| VW.block <| lop (fun k s => ∃ x17 x18 x19, s = ⟨[(3, I x17), (6, Vv (.sl (.int .u8)) a0), (7, I x18), (8, I x19)], []⟩ ∧ F141_l0 N a0 k x17 x18 x19 = some r) N [.ren [3, 6, 7, 8] []] ⟨(5 : Int), (a0.length : Int), (0 : Int), rfl, h⟩ ?_
  rintro k22 s ⟨x17, x18, x19, rfl, h⟩
  cases k22 with
  | zero => cases show none = some r from h
  | succ k22 =>
   replace h : F141_l0_b N a0 (F141_l0 N a0 k22) x17 x18 x19 = some r := h
   unfold F141_l0_b at h
   refine nR K (tn 1) <| sq ?_
   refine cnd h ?_ ?_<;>intro h
   ·refine VW.skip <| sq <| VW.block ?_
    obtain⟨g24,h⟩:=gS h
    refine nR K (an g24 (tn 2)) <| nE K (pu 5 (an (show ((999983 : Int) ≠ 0) from by decide) (tn 1))) <| nE K (tn 2) ?_
    exact aro [.ren [3, 6, 7, 8] []] ⟨(Int.tmod (wr ((wr ((269 : Int) * x17)) + (wr (a0.getD x19.toNat (Ty.dflt (.int .u8)))))) (999983 : Int)), x18, (wr (x19 + (1 : Int))), rfl, h⟩
   refine VW.exit ?_
   exact arv [.ren [3] []] ⟨x17, rfl, h⟩
 rintro s ⟨x12, rfl, h⟩
 unfold F141_j0 at h
 refine nR K (tn 2) ?_
 cases h; exact VW.ret (rt [])
def F109 (N : Nat) (a0 : (List Int)) : Option ((List Int) × Bool) :=
  cond (decide ((a0.length : Int) > (4000 : Int))) (some ([], false)) (gd (0 < ([(80 : Int), (83 : Int)]).length) (andO (F107 N (a0.length : Int)) fun y2 => andO (F141 N a0) fun y3 => andO (F107 N y3) fun y4 => andO (F140 N ([[(80 : Int), (83 : Int)], y2, a0, y4])) fun y5 => some (y5, true)))
theorem ok109 N a0 {r} (h : F109 N a0 = some r) : Con prog 109 [Vv (.sl (.int .u8)) a0] [.lf (.own (.int .u8) r.1 .dp), .lf (.v .bool r.2)] := by
 refine ctr [.lf (.own (.int .u8) .dp), .lf (.v .bool)] K func109 rfl fun w0 E0 ht => ?_
 unfold F109 at h
 show VW _ _ _ _ _ (retQ _ _ _ _) _
 refine nR K (tn 2) <| sq <| nR K (tn 3) ?_
 refine cnd h ?_ ?_<;>intro h
 ·refine nR K (tn 2) ?_
  cases h; exact VW.ret (rt [none])
 refine VW.skip <| sq <| VW.region <| nG K 1 (tn 1) ?_
 obtain⟨g1,h⟩:=gS h
 refine VO.mark (d := 8) (φ := 0 < ([(80 : Int), (83 : Int)]).length) (v := Vv (.sl (.int .u8)) ([(80 : Int), (83 : Int)])) (H' := [none]) K (by kernel_rfl) g1 <| nG K 2 (tn 2) ?_
 obtain⟨y2,hy,h⟩:=aS h
 refine clc false [.t (.int .i64)] [] (some 11) K (ok107 N _ hy) <| nG K 2 (tn 2) ?_
 obtain⟨y3,hy,h⟩:=aS h
 refine clc false [.t (.sl (.int .u8))] [] (some 14) K (ok141 N _ hy) ?_
 obtain⟨y4,hy,h⟩:=aS h
 refine clc false [.t (.int .i64)] [] (some 15) K (ok107 N _ hy) <| VO.ghl [.frz 1, .frz 2] <| nG K 1 (tn 1) ?_
 obtain⟨y5,hy,h⟩:=aS h
 refine clc true [.t (.sl (.sl (.int .u8)))] [] (some 17) K (ok140 N _ hy) <| nN K (tn 2) ?_
 cases h; exact VW.ret (rt [some 4])
def F76_j0 (N : Nat) (x27 : (List Int)) : Option ((List Int) × Bool) :=
  andO (F109 N x27) fun y28 => some (y28.1, y28.2)
def F76_l0_b (N : Nat) (a0 : (List Z64)) (nx46 : (List Int) → Int → Int → Option ((List Int) × Bool)) (x37 : (List Int)) (x38 : Int) (x39 : Int) : Option ((List Int) × Bool) :=
  cond (decide (x39 < x38)) (gd (InR x39 a0.length) (andO (F108 N (a0.getD x39.toNat (Ty.dflt Y64))) fun y51 => gd (x37.length + y51.length ≤ lim (.int .u8)) (nx46 (x37 ++ y51) x38 (IntKind.i64.wrap (x39 + (1 : Int)))))) (F76_j0 N x37)
def F76_l0 (N : Nat) (a0 : (List Z64)) := loopF (F76_l0_b N a0) (fun _ _ _ => none)
theorem F76_l0_s N a0 {k} (hk : 0 < k) x37 x38 x39 : F76_l0 N a0 k x37 x38 x39 = F76_l0_b N a0 (F76_l0 N a0 (k - 1)) x37 x38 x39 := by cases k;cases hk;rfl
def F76 (N : Nat) (a0 : (List Z64)) : Option ((List Int) × Bool) :=
  andO (F77 N a0) fun y2 => cond (!y2) (some ([], false)) (andO (F107 N (a0.length : Int)) fun y3 => F76_l0 N a0 N y3 (a0.length : Int) (0 : Int))
theorem ok76 N a0 {r} (h : F76 N a0 = some r) : Con prog 76 [Vv (.sl Y64) a0] [.lf (.own (.int .u8) r.1 .dp), .lf (.v .bool r.2)] := by
 refine ctr [.lf (.own (.int .u8) .dp), .lf (.v .bool)] K func76 rfl fun w0 E0 ht => ?_
 unfold F76 at h
 show VW _ _ _ _ _ (retQ _ _ _ _) _
 refine nR K (tn 2) <| sq <| sq <| VW.region <| nG K 1 (tn 1) ?_
 obtain⟨y2,hy,h⟩:=aS h
 refine clc false [.t (.sl Y64)] [] (some 8) K (ok77 N _ hy) <| nN K (tn 1) ?_
 refine cnd h ?_ ?_<;>intro h
 ·refine nR K (tn 2) ?_
  cases h; exact VW.ret (rt [none])
 refine VW.skip <| sq <| VW.region <| nG K 2 (tn 2) ?_
 obtain⟨y3,hy,h⟩:=aS h
 refine clc false [.t (.int .i64)] [] (some 12) K (ok107 N _ hy) <| nN K (tn 1) ?_
 refine VW.join (fun s => ∃ x27, s = ⟨[(4, hh 0)], [ar 0 (.int .u8) x27 .dp]⟩ ∧ F76_j0 N x27 = some r) ?_ ?_
 ·refine nR K (tn 3) <| VW.block <| lop (fun k s => ∃ x37 x38 x39, s = ⟨[(4, hh 0), (13, Vv (.sl Y64) a0), (14, I x38), (15, I x39)], [ar 0 (.int .u8) x37 .dp]⟩ ∧ F76_l0 N a0 k x37 x38 x39 = some r) N [.ren [4, 13, 14, 15] [0]] ⟨y3, (a0.length : Int), (0 : Int), rfl, h⟩ ?_
  rintro k46 s ⟨x37, x38, x39, rfl, h⟩
  cases k46 with
  | zero => cases show none = some r from h
  | succ k46 =>
   replace h : F76_l0_b N a0 (F76_l0 N a0 k46) x37 x38 x39 = some r := h
   unfold F76_l0_b at h
   refine nR K (tn 1) <| sq ?_
   refine cnd h ?_ ?_<;>intro h
   ·refine VW.skip <| sq <| VW.block ?_
    obtain⟨g50,h⟩:=gS h
    refine nR K (an g50 (tn 3)) <| VW.region <| nG K 2 (tn 2) ?_
    obtain⟨y51,hy,h⟩:=aS h
    refine clc false [.t Y64] [] (some 21) K (ok108 N _ hy) ?_
    obtain⟨g52,h⟩:=gS h
    refine nN K (an g52 (tn 1)) <| nE K (tn 2) ?_
    exact aro [.ren [4, 13, 14, 15] [0]] ⟨(x37 ++ y51), x38, (wr (x39 + (1 : Int))), rfl, h⟩
   refine VW.exit ?_
   exact arv [.ren [4] [0]] ⟨x37, rfl, h⟩
 rintro s ⟨x27, rfl, h⟩
 unfold F76_j0 at h
 refine sq <| VW.region <| nG K 1 (tn 1) ?_
 obtain⟨y28,hy,h⟩:=aS h
 refine clc true [.t (.sl (.int .u8))] [] (some 25) K (ok109 N _ hy) <| nN K (tn 4) ?_
 cases h; exact VW.ret (rt [some 1])
def F44_j0 (N : Nat) (x21 : Int) : Option (Int) :=
  some x21
def F44_l0_b (N : Nat) (nx37 : Int → (List Int) → Int → Int → Option (Int)) (x29 : Int) (x30 : (List Int)) (x31 : Int) (x32 : Int) : Option (Int) :=
  cond (decide (x32 < x31)) (gd (InR x32 x30.length) (gd (x32.toNat < x30.length) (nx37 (Int.tmod (IntKind.i64.wrap ((IntKind.i64.wrap ((31 : Int) * x29)) + (IntKind.i64.wrap (x30.getD x32.toNat (Ty.dflt (.int .u8)))))) (251 : Int)) x30 x31 (IntKind.i64.wrap (x32 + (1 : Int)))))) (F44_j0 N x29)
def F44_l0 (N : Nat) := loopF (F44_l0_b N) (fun _ _ _ _ => none)
theorem F44_l0_s N {k} (hk : 0 < k) x29 x30 x31 x32 : F44_l0 N k x29 x30 x31 x32 = F44_l0_b N (F44_l0 N (k - 1)) x29 x30 x31 x32 := by cases k;cases hk;rfl
def F44 (N : Nat) (a0 : (List Z64)) : Option (Int) :=
  andO (F76 N a0) fun y1 => cond (!y1.2) (some (-1 : Int)) (F44_l0 N N (97 : Int) y1.1 (y1.1.length : Int) (0 : Int))
theorem ok44 N a0 {r} (h : F44 N a0 = some r) : Con prog 44 [Vv (.sl Y64) a0] [.lf (.v (.int .i64) r)] := by
 refine ctr [.lf (.v (.int .i64))] K func44 rfl fun w0 E0 ht => ?_
 unfold F44 at h
 show VW _ _ _ _ _ (retQ _ _ _ _) _
 refine nR K (tn 1) <| sq <| VW.region <| nG K 1 (tn 1) ?_
 obtain⟨y1,hy,h⟩:=aS h
 refine clc false [.t (.sl Y64)] [] (some 10) K (ok76 N _ hy) <| nN K (tn 5) <| sq <| nR K (tn 2) ?_
 refine cnd h ?_ ?_<;>intro h
 ·refine nR K (tn 1) ?_
  cases h; exact VW.ret (rt [])
 refine VW.skip <| nR K (tn 1) ?_
 refine VW.join (fun s => ∃ x21, s = ⟨[(5, I x21)], []⟩ ∧ F44_j0 N x21 = some r) ?_ ?_
 ·refine nR K (tn 3) <| VW.block <| lop (fun k s => ∃ x29 x30 x31 x32, s = ⟨[(5, I x29), (15, hh 0), (16, I x31), (17, I x32)], [ar 0 (.int .u8) x30 .dp]⟩ ∧ F44_l0 N k x29 x30 x31 x32 = some r) N [.ren [5, 15, 16, 17] [0]] ⟨(97 : Int), y1.1, (y1.1.length : Int), (0 : Int), rfl, h⟩ ?_
  rintro k37 s ⟨x29, x30, x31, x32, rfl, h⟩
  cases k37 with
  | zero => cases show none = some r from h
  | succ k37 =>
   replace h : F44_l0_b N (F44_l0 N k37) x29 x30 x31 x32 = some r := h
   unfold F44_l0_b at h
   refine nR K (tn 1) <| sq ?_
   refine cnd h ?_ ?_<;>intro h
   ·refine VW.skip <| sq <| VW.block ?_
    obtain⟨g40,h⟩:=gS h
    obtain⟨g41,h⟩:=gS h
    refine nR K (an g40 (an g41 (tn 1))) <| nE K (pu 5 (an (show ((251 : Int) ≠ 0) from by decide) (tn 1))) <| nE K (tn 2) ?_
    exact aro [.ren [5, 15, 16, 17] [0]] ⟨(Int.tmod (wr ((wr ((31 : Int) * x29)) + (wr (x30.getD x32.toNat (Ty.dflt (.int .u8)))))) (251 : Int)), x30, x31, (wr (x32 + (1 : Int))), rfl, h⟩
   refine VW.exit ?_
   exact arv [.ren [5] []] ⟨x29, rfl, h⟩
 rintro s ⟨x21, rfl, h⟩
 unfold F44_j0 at h
 refine nR K (tn 2) ?_
 cases h; exact VW.ret (rt [])
theorem ok113_c1 N a0 (g1 : FuncId) e1_0 (p1 : Z64 → Option (Bool)) (hp1 : ∀ (z0 : Z64) (r : Bool), p1 z0 = some r → Con prog g1 [.agg (lv Y64 z0), .lf (.fp (.int .i64) e1_0 0)] [.lf (.v .bool r)]) {r} (h : F113 N a0 p1 = some r) : Con prog 113 [Vv (.sl Y64) a0, .clo g1 [.lf (.fp (.int .i64) e1_0 0)]] [.lf (.v (.int .i64) r)] := by
 refine ctr [.lf (.v (.int .i64))] K func113 rfl fun w0 E0 ht => ?_
 unfold F113 at h
 show VW _ _ _ _ _ (retQ _ _ _ _) _
 refine nR K (tn 1) ?_
 refine VW.join (fun s => s = ⟨[], []⟩ ∧ F113_j0 N = some r) ?_ ?_
 ·refine nR K (tn 3) <| VW.block <| lop (fun k s => ∃ x23 x24, s = ⟨[(0, Vv (.sl Y64) a0), (1, .clo g1 [.lf (.fp (.int .i64) e1_0 0)]), (7, I x23), (8, I x24)], []⟩ ∧ F113_l0 N a0 p1 k x23 x24 = some r) N [.ren [0, 1, 7, 8] []] ⟨(a0.length : Int), (0 : Int), rfl, h⟩ ?_
  rintro k29 s ⟨x23, x24, rfl, h⟩
  cases k29 with
  | zero => cases show none = some r from h
  | succ k29 =>
   replace h : F113_l0_b N a0 p1 (F113_l0 N a0 p1 k29) x23 x24 = some r := h
   unfold F113_l0_b at h
   refine nR K (tn 1) <| sq ?_
   refine cnd h ?_ ?_<;>intro h
   ·refine VW.skip <| sq <| VW.block <| nR K (tn 2) <| sq <| VW.region ?_
    obtain⟨g32,h⟩:=gS h
    refine nG K 5 (pu 3 (an g32 (tn 1))) ?_
    obtain⟨y33,hy,h⟩:=aS h
    refine clc false [.t Y64] [.k] (some 16) K (hp1 _ _ hy) <| nN K (tn 0) ?_
    refine cnd h ?_ ?_<;>intro h
    ·refine nR K (tn 2) ?_
     cases h; exact VW.ret (rt [])
    refine VW.skip <| nE K (tn 2) ?_
    exact aro [.ren [0, 1, 7, 8] []] ⟨x23, (wr (x24 + (1 : Int))), rfl, h⟩
   refine VW.exit ?_
   exact arv [.ren [] []] ⟨rfl, h⟩
 rintro s ⟨rfl, h⟩
 unfold F113_j0 at h
 refine nR K (tn 1) ?_
 cases h; exact VW.ret (rt [])
theorem ok78_c1 N a0 (g1 : FuncId) e1_0 (p1 : Z64 → Option (Bool)) (hp1 : ∀ (z0 : Z64) (r : Bool), p1 z0 = some r → Con prog g1 [.agg (lv Y64 z0), .lf (.fp (.int .i64) e1_0 0)] [.lf (.v .bool r)]) {r} (h : F78 N a0 p1 = some r) : Con prog 78 [Vv (.sl Y64) a0, .clo g1 [.lf (.fp (.int .i64) e1_0 0)]] [.lf (.v .bool r)] := by
 refine ctr [.lf (.v .bool)] K func78 rfl fun w0 E0 ht => ?_
 unfold F78 at h
 show VW _ _ _ _ _ (retQ _ _ _ _) _
 refine nR K (tn 1) <| sq <| VW.region <| nG K 2 (tn 2) ?_
 obtain⟨y1,hy,h⟩:=aS h
 refine clc false [.t (.sl Y64), .clo [.k]] [] (some 7) K (ok113_c1 N _ g1 e1_0 p1 hp1 hy) <| nN K (tn 2) ?_
 cases h; exact VW.ret (rt [])
def F79 (N : Nat) (a0 : Z64) (c0 : Int) : Option (Bool) :=
  cond a0.2.2.2.2.2.1 (some (decide (a0.2.2.2.2.1 ≥ c0))) (some false)
theorem ok79 N a0 c0 {r} (h : F79 N a0 c0 = some r) : Con prog 79 [.agg (lv Y64 a0), .lf (.fp (.int .i64) c0 0)] [.lf (.v .bool r)] := by
 refine ctr [.lf (.v .bool)] K func79 rfl fun w0 E0 ht => ?_
 unfold F79 at h
 show VW _ _ _ _ _ (retQ _ _ _ _) _
 refine nR K (tn 2) <| sq <| VW.region <| nG K 3 (tn 3) ?_
 refine spC 6 h ?_ ?_<;>intro h
 ·refine nN K (tn 6) ?_
  cases h; exact VW.ret (rt [])
 refine nN K (tn 6) ?_
 cases h; exact VW.ret (rt [])
def F45 (N : Nat) (a0 : (List Z64)) (a1 : Int) : Option (Bool) :=
  andO (F77 N a0) fun y1 => cond y1 (andO (F78 N a0 (fun z0 => F79 N z0 a1)) fun y2 => some (!y2)) (some false)
theorem ok45 N a0 a1 {r} (h : F45 N a0 a1 = some r) : Con prog 45 [Vv (.sl Y64) a0, I a1] [.lf (.v .bool r)] := by
 refine ctr [.lf (.v .bool)] K func45 rfl fun w0 E0 ht => ?_
 unfold F45 at h
 show VW _ _ _ _ _ (retQ _ _ _ _) _
 refine nR K (tn 2) <| sq <| VW.region <| nG K 1 (tn 1) ?_
 obtain⟨y1,hy,h⟩:=aS h
 refine clc false [.t (.sl Y64)] [] (some 6) K (ok77 N _ hy) <| nG K 1 (tn 1) ?_
 refine spC 7 h ?_ ?_<;>intro h
 ·refine nG K 2 (tn 2) <| VO.on (j := 2) (want := true) (d := 7) (b := true) rfl rfl rfl (by kernel_rfl) rfl ?_
  obtain⟨y2,hy,h⟩:=aS h
  refine VO.ghl [.frzB 0 (.int .i64)] <| clc false [.t (.sl Y64), .clo [.k]] [] (some 10) K (ok78_c1 N _ 79 a1 (fun z0 => F79 N z0 a1) (fun z0 _ hz => ok79 N z0 _ hz) hy) <| nN K (tn 3) ?_
  cases h; exact VW.ret (rt [])
 refine nN K (tn 6) ?_
 cases h; exact VW.ret (rt [])
def F80 (N : Nat) (a0 : (List Int)) : Option ((List Int)) :=
  gd (a0.length < 4611686018427387904) (some (a0.mergeSort fun x y => decide (x ≤ y)))
theorem ok80 N a0 {r} (h : F80 N a0 = some r) : ConM prog 80 [some (.arr 0 (.int .i64) a0 .dp)] [.lf (.hd 0 0 none)] [] [some (.arr 0 (.int .i64) r .dp)] := by
 obtain ⟨g, h⟩ := gd_some h
 cases h
 exact con_sort (enters_of func80 rfl (by decide)) g (fun p c w => Go.Proofs.Tryz.slices_Sort_int_none p c w) (fun b c w h1 h2 => Go.Proofs.Tryz.slices_Sort_int b 0 c a0 w h1 h2 g)
def F81 (N : Nat) (a0 : (List Int)) : Option ((List Int)) :=
  gd (a0.length ≤ 9223372036854775807) (some (Lib.compact a0))
theorem ok81 N a0 {r} (h : F81 N a0 = some r) : ConM prog 81 [some (.arr 0 (.int .i64) a0 .dp)] [.lf (.hd 0 0 none)] [.lf (.own (.int .i64) r .dp)] [none] := by
 obtain ⟨g, h⟩ := gd_some h
 cases h
 exact con_compact (enters_of func81 rfl (by decide)) g (fun p c w => Go.Proofs.Tryz.slices_Compact_int_empty p c w) (fun b c w h1 h2 => Go.Proofs.Tryz.slices_Compact_int b 0 c a0 w h1 g h2)
def F46_j0 (N : Nat) (x26 : (List Int)) : Option ((List Int)) :=
  andO (F80 N x26) fun y27 => andO (F81 N y27) fun y28 => some y28
def F46_j1 (N : Nat) (nx46 : (List Int) → Int → Int → Option ((List Int))) (x38 : Int) (x39 : Int) (x49 : (List Int)) : Option ((List Int)) :=
  nx46 x49 x38 (IntKind.i64.wrap (x39 + (1 : Int)))
def F46_l0_b (N : Nat) (a0 : (List Z64)) (nx46 : (List Int) → Int → Int → Option ((List Int))) (x37 : (List Int)) (x38 : Int) (x39 : Int) : Option ((List Int)) :=
  cond (decide (x39 < x38)) (gd (InR x39 a0.length) (cond ((a0.getD x39.toNat (Ty.dflt Y64)).2.2.2.2.2.1) (gd (x37.length + ([(a0.getD x39.toNat (Ty.dflt Y64)).2.2.2.2.1]).length ≤ lim (.int .i64)) (F46_j1 N nx46 x38 x39 (x37 ++ ([(a0.getD x39.toNat (Ty.dflt Y64)).2.2.2.2.1])))) (F46_j1 N nx46 x38 x39 x37))) (F46_j0 N x37)
def F46_l0 (N : Nat) (a0 : (List Z64)) := loopF (F46_l0_b N a0) (fun _ _ _ => none)
theorem F46_l0_s N a0 {k} (hk : 0 < k) x37 x38 x39 : F46_l0 N a0 k x37 x38 x39 = F46_l0_b N a0 (F46_l0 N a0 (k - 1)) x37 x38 x39 := by cases k;cases hk;rfl
def F46 (N : Nat) (a0 : (List Z64)) : Option ((List Int)) :=
  andO (F77 N a0) fun y2 => cond (!y2) (some ([])) (F46_l0 N a0 N ([]) (a0.length : Int) (0 : Int))
theorem ok46 N a0 {r} (h : F46 N a0 = some r) : Con prog 46 [Vv (.sl Y64) a0] [.lf (.own (.int .i64) r .dp)] := by
 refine ctr [.lf (.own (.int .i64) .dp)] K func46 rfl fun w0 E0 ht => ?_
 unfold F46 at h
 show VW _ _ _ _ _ (retQ _ _ _ _) _
 refine nR K (tn 1) <| sq <| sq <| VW.region <| nG K 1 (tn 1) ?_
 obtain⟨y2,hy,h⟩:=aS h
 refine clc false [.t (.sl Y64)] [] (some 7) K (ok77 N _ hy) <| nN K (tn 1) ?_
 refine cnd h ?_ ?_<;>intro h
 ·refine nR K (tn 1) ?_
  cases h; exact VW.ret (rt [none])
 refine VW.skip <| nR K (tn 1) ?_
 refine VW.join (fun s => ∃ x26, s = ⟨[(3, hh 0)], [ar 0 (.int .i64) x26 .dp]⟩ ∧ F46_j0 N x26 = some r) ?_ ?_
 ·refine nR K (tn 3) <| VW.block <| lop (fun k s => ∃ x37 x38 x39, s = ⟨[(3, hh 0), (9, Vv (.sl Y64) a0), (10, I x38), (11, I x39)], [ar 0 (.int .i64) x37 .dp]⟩ ∧ F46_l0 N a0 k x37 x38 x39 = some r) N [.nilS 3 (.int .i64) .dp, .ren [3, 9, 10, 11] [0]] ⟨[], (a0.length : Int), (0 : Int), rfl, h⟩ ?_
  rintro k46 s ⟨x37, x38, x39, rfl, h⟩
  cases k46 with
  | zero => cases show none = some r from h
  | succ k46 =>
   replace h : F46_l0_b N a0 (F46_l0 N a0 k46) x37 x38 x39 = some r := h
   unfold F46_l0_b at h
   refine nR K (tn 1) <| sq ?_
   refine cnd h ?_ ?_<;>intro h
   ·refine VW.skip ?_
    refine VW.join (fun s => ∃ x49, s = ⟨[(3, hh 0), (9, Vv (.sl Y64) a0), (10, I x38), (11, I x39)], [ar 0 (.int .i64) x49 .dp]⟩ ∧ F46_j1 N (F46_l0 N a0 k46) x38 x39 x49 = some r) ?_ ?_
    ·refine VW.block ?_
     obtain⟨g51,h⟩:=gS h
     refine nR K (an g51 (tn 3)) <| nR K (tn 2) ?_
     refine cnd h ?_ ?_<;>intro h
     ·obtain⟨g52,h⟩:=gS h
      refine nE K (pu 4 (an g52 (tn 1))) ?_
      exact arv [.ren [3, 9, 10, 11] [0]] ⟨(x37 ++ ([(a0.getD x39.toNat D64).2.2.2.2.1])), rfl, h⟩
     refine VW.skip ?_
     exact arv [.ren [3, 9, 10, 11] [0]] ⟨x37, rfl, h⟩
    rintro s ⟨x49, rfl, h⟩
    unfold F46_j1 at h
    refine nE K (tn 2) ?_
    exact aro [.ren [3, 9, 10, 11] [0]] ⟨x49, x38, (wr (x39 + (1 : Int))), rfl, h⟩
   refine VW.exit ?_
   exact arv [.ren [3] [0]] ⟨x37, rfl, h⟩
 rintro s ⟨x26, rfl, h⟩
 unfold F46_j0 at h
 refine sq <| VW.region <| nG K 1 (tn 1) ?_
 obtain⟨y27,hy,h⟩:=aS h
 refine VO.callM [0] [.t (.sl (.int .i64))] (d := some 24) (by kernel_rfl) (by kernel_rfl) (ok80 N _ hy) (by kernel_rfl) <| nN K (tn 0) <| sq <| VW.region <| nG K 1 (tn 1) ?_
 obtain⟨y28,hy,h⟩:=aS h
 refine VO.callM [0] [.t (.sl (.int .i64))] (d := some 26) (by kernel_rfl) (by kernel_rfl) (ok81 N _ hy) (by kernel_rfl) <| nN K (tn 1) ?_
 cases h; exact VW.ret (rt [some 1])
def F82_j0 (N : Nat) : Option (Bool) :=
  some true
def F82_l0_b (N : Nat) (a0 : (List Z64)) (a1 : (List Z64)) (p2 : Z64 → Z64 → Option (Bool)) (nx39 : Int → Int → Option (Bool)) (x31 : Int) (x32 : Int) : Option (Bool) :=
  cond (decide (x32 < x31)) (gd (InR x32 a0.length) (gd (InR x32 a1.length) (andO (p2 (a0.getD x32.toNat (Ty.dflt Y64)) (a1.getD x32.toNat (Ty.dflt Y64))) fun y45 => cond (!y45) (some false) (nx39 x31 (IntKind.i64.wrap (x32 + (1 : Int))))))) (F82_j0 N)
def F82_l0 (N : Nat) (a0 : (List Z64)) (a1 : (List Z64)) (p2 : Z64 → Z64 → Option (Bool)) := loopF (F82_l0_b N a0 a1 p2) (fun _ _ => none)
theorem F82_l0_s N a0 a1 (p2 : Z64 → Z64 → Option (Bool)) {k} (hk : 0 < k) x31 x32 : F82_l0 N a0 a1 p2 k x31 x32 = F82_l0_b N a0 a1 p2 (F82_l0 N a0 a1 p2 (k - 1)) x31 x32 := by cases k;cases hk;rfl
def F82 (N : Nat) (a0 : (List Z64)) (a1 : (List Z64)) (p2 : Z64 → Z64 → Option (Bool)) : Option (Bool) :=
  cond ((a0.length : Int) != (a1.length : Int)) (some false) (F82_l0 N a0 a1 p2 N (a0.length : Int) (0 : Int))
theorem ok82 N a0 a1 (g2 : FuncId) (p2 : Z64 → Z64 → Option (Bool)) (hp2 : ∀ (z0 : Z64) (z1 : Z64) (r : Bool), p2 z0 z1 = some r → Con prog g2 [.agg (lv Y64 z0), .agg (lv Y64 z1)] [.lf (.v .bool r)]) {r} (h : F82 N a0 a1 p2 = some r) : Con prog 82 [Vv (.sl Y64) a0, Vv (.sl Y64) a1, .clo g2 []] [.lf (.v .bool r)] := by
 refine ctr [.lf (.v .bool)] K func82 rfl fun w0 E0 ht => ?_
 unfold F82 at h
 show VW _ _ _ _ _ (retQ _ _ _ _) _
 refine nR K (tn 1) <| sq <| nR K (tn 5) ?_
 refine cnd h ?_ ?_<;>intro h
 ·refine nR K (tn 1) ?_
  cases h; exact VW.ret (rt [])
 refine VW.skip ?_
 refine VW.join (fun s => s = ⟨[], []⟩ ∧ F82_j0 N = some r) ?_ ?_
 ·refine nR K (tn 3) <| VW.block <| lop (fun k s => ∃ x31 x32, s = ⟨[(1, Vv (.sl Y64) a1), (2, .clo g2 []), (15, Vv (.sl Y64) a0), (16, I x31), (17, I x32)], []⟩ ∧ F82_l0 N a0 a1 p2 k x31 x32 = some r) N [.ren [1, 2, 15, 16, 17] []] ⟨(a0.length : Int), (0 : Int), rfl, h⟩ ?_
  rintro k39 s ⟨x31, x32, rfl, h⟩
  cases k39 with
  | zero => cases show none = some r from h
  | succ k39 =>
   replace h : F82_l0_b N a0 a1 p2 (F82_l0 N a0 a1 p2 k39) x31 x32 = some r := h
   unfold F82_l0_b at h
   refine nR K (tn 1) <| sq ?_
   refine cnd h ?_ ?_<;>intro h
   ·refine VW.skip <| sq <| VW.block ?_
    obtain⟨g43,h⟩:=gS h
    refine nR K (pu 1 (an g43 (tn 4))) ?_
    obtain⟨g44,h⟩:=gS h
    refine nR K (pu 2 (an g44 (tn 3))) <| sq <| VW.region <| nG K 3 (tn 3) ?_
    obtain⟨y45,hy,h⟩:=aS h
    refine clc false [.t Y64, .t Y64] [] (some 29) K (hp2 _ _ _ hy) <| nN K (tn 1) ?_
    refine cnd h ?_ ?_<;>intro h
    ·refine nR K (tn 1) ?_
     cases h; exact VW.ret (rt [])
    refine VW.skip <| nE K (tn 2) ?_
    exact aro [.ren [1, 2, 15, 16, 17] []] ⟨x31, (wr (x32 + (1 : Int))), rfl, h⟩
   refine VW.exit ?_
   exact arv [.ren [] []] ⟨rfl, h⟩
 rintro s ⟨rfl, h⟩
 unfold F82_j0 at h
 refine nR K (tn 1) ?_
 cases h; exact VW.ret (rt [])
def F47 (N : Nat) (a0 : (List Z64)) (a1 : (List Z64)) : Option (Bool) :=
  andO (F82 N a0 a1 (fun z0 z1 => F83 N z0 z1)) fun y1 => some y1
theorem ok47 N a0 a1 {r} (h : F47 N a0 a1 = some r) : Con prog 47 [Vv (.sl Y64) a0, Vv (.sl Y64) a1] [.lf (.v .bool r)] := by
 refine ctr [.lf (.v .bool)] K func47 rfl fun w0 E0 ht => ?_
 unfold F47 at h
 show VW _ _ _ _ _ (retQ _ _ _ _) _
 refine nR K (tn 1) <| sq <| VW.region <| nG K 2 (tn 2) ?_
 obtain⟨y1,hy,h⟩:=aS h
 refine clc false [.t (.sl Y64), .t (.sl Y64), .clo []] [] (some 7) K (ok82 N _ _ 83  (fun z0 z1 => F83 N z0 z1 ) (fun z0 z1 _ hz => ok83 N z0 z1 hz) hy) <| nN K (tn 1) ?_
 cases h; exact VW.ret (rt [])
def F11_j0 (N : Nat) : Option (Bool) :=
  some true
def F11_j1 (N : Nat) (nx593 : Int → Int → Option (Bool)) (x486 : Int) (x487 : Int) : Option (Bool) :=
  nx593 x486 (IntKind.i64.wrap (x487 + (1 : Int)))
def F11_l0_b (N : Nat) (nx593 : Int → Int → Option (Bool)) (x486 : Int) (x487 : Int) (nx694 : Int → (List Z64) → (List Z64) → Int → Int → (List Z52) → Int → Int → Option (Bool)) (x682 : Int) (x683 : (List Z64)) (x684 : (List Z64)) (x685 : Int) (x686 : Int) (x687 : (List Z52)) (x688 : Int) (x689 : Int) : Option (Bool) :=
  cond (decide (x689 < x688)) (gd (InR x689 x687.length) (andO (F47 N x683 ((x687.getD x689.toNat (Ty.dflt Y52)).2.1)) fun y698 => cond y698 (some false) (nx694 x682 x683 x684 x685 x686 x687 x688 (IntKind.i64.wrap (x689 + (1 : Int)))))) (F11_j1 N nx593 x486 x487)
def F11_l0 (N : Nat) (nx593 : Int → Int → Option (Bool)) (x486 : Int) (x487 : Int) := loopF (F11_l0_b N nx593 x486 x487) (fun _ _ _ _ _ _ _ _ => none)
theorem F11_l0_s N nx593 x486 x487 {k} (hk : 0 < k) x682 x683 x684 x685 x686 x687 x688 x689 : F11_l0 N nx593 x486 x487 k x682 x683 x684 x685 x686 x687 x688 x689 = F11_l0_b N nx593 x486 x487 (F11_l0 N nx593 x486 x487 (k - 1)) x682 x683 x684 x685 x686 x687 x688 x689 := by cases k;cases hk;rfl
def F11_l1_b (N : Nat) (x52 : (List Z75)) (x53 : (List Z52)) (x54 : Int) (x55 : Int) (nx593 : Int → Int → Option (Bool)) (x486 : Int) (x487 : Int) : Option (Bool) :=
  cond (decide (x487 < x486)) (gd (InR x487 x53.length) (andO (F43 N x52 ((x53.getD x487.toNat (Ty.dflt Y52)).2.1)) fun y657 => cond (!y657) (some false) (andO (F43 N x52 ((x53.getD x487.toNat (Ty.dflt Y52)).2.2.1)) fun y659 => cond (!y659) (some false) (andO (F44 N ((x53.getD x487.toNat (Ty.dflt Y52)).2.1)) fun y661 => cond (((x53.getD x487.toNat (Ty.dflt Y52)).1) != y661) (some false) (andO (F42 N ((x53.getD x487.toNat (Ty.dflt Y52)).2.2.2.1) (0 : Int) x54) fun y663 => cond (!y663) (some false) (andO (F42 N ((x53.getD x487.toNat (Ty.dflt Y52)).2.2.2.2) (0 : Int) x55) fun y665 => cond (!y665) (some false) (andO (F46 N ((x53.getD x487.toNat (Ty.dflt Y52)).2.1)) fun y668 => andO (F45 N ((x53.getD x487.toNat (Ty.dflt Y52)).2.2.1) (y668.length : Int)) fun y669 => cond (!y669) (some false) (gd (0 ≤ x487 ∧ x487 ≤ (x53.length : Int)) (F11_l0 N nx593 x486 x487 N ((x53.getD x487.toNat (Ty.dflt Y52)).1) ((x53.getD x487.toNat (Ty.dflt Y52)).2.1) ((x53.getD x487.toNat (Ty.dflt Y52)).2.2.1) ((x53.getD x487.toNat (Ty.dflt Y52)).2.2.2.1) ((x53.getD x487.toNat (Ty.dflt Y52)).2.2.2.2) (x53.take x487.toNat) ((x53.take x487.toNat).length : Int) (0 : Int)))))))))) (F11_j0 N)
def F11_l1 (N : Nat) (x52 : (List Z75)) (x53 : (List Z52)) (x54 : Int) (x55 : Int) := loopF (F11_l1_b N x52 x53 x54 x55) (fun _ _ => none)
theorem F11_l1_s N x52 x53 x54 x55 {k} (hk : 0 < k) x486 x487 : F11_l1 N x52 x53 x54 x55 k x486 x487 = F11_l1_b N x52 x53 x54 x55 (F11_l1 N x52 x53 x54 x55 (k - 1)) x486 x487 := by cases k;cases hk;rfl
def F11_j2 (N : Nat) (x51 : Int) (x52 : (List Z75)) (x53 : (List Z52)) (x54 : Int) (x55 : Int) (x56 : Int) (x57 : Int) (x58 : Int) (x59 : Int) : Option (Bool) :=
  F11_l1 N x52 x53 x54 x55 N (x53.length : Int) (0 : Int)
def F11_l2_b (N : Nat) (nx735 : Int → (List Z75) → (List Z52) → Int → Int → Int → Int → Int → Int → (List Int) → Int → Int → Option (Bool)) (x717 : Int) (x718 : (List Z75)) (x719 : (List Z52)) (x720 : Int) (x721 : Int) (x722 : Int) (x723 : Int) (x724 : Int) (x725 : Int) (x726 : (List Int)) (x727 : Int) (x728 : Int) : Option (Bool) :=
  cond (decide (x728 < x727)) (gd (InR x728 x726.length) (gd (x728.toNat < x726.length) (andO (F42 N (x726.getD x728.toNat (Ty.dflt (.int .i64))) (0 : Int) (1000000 : Int)) fun y741 => cond (!y741) (some false) (nx735 x717 x718 x719 x720 x721 x722 x723 x724 x725 x726 x727 (IntKind.i64.wrap (x728 + (1 : Int))))))) (F11_j2 N x717 x718 x719 x720 x721 x722 x723 x724 x725)
def F11_l2 (N : Nat) := loopF (F11_l2_b N) (fun _ _ _ _ _ _ _ _ _ _ _ _ => none)
theorem F11_l2_s N {k} (hk : 0 < k) x717 x718 x719 x720 x721 x722 x723 x724 x725 x726 x727 x728 : F11_l2 N k x717 x718 x719 x720 x721 x722 x723 x724 x725 x726 x727 x728 = F11_l2_b N (F11_l2 N (k - 1)) x717 x718 x719 x720 x721 x722 x723 x724 x725 x726 x727 x728 := by cases k;cases hk;rfl
def F11 (N : Nat) (a0 : Z24) : Option (Bool) :=
  andO (F39 N a0.1) fun y5 => cond (!y5) (some false) (andO (F40 N a0.2.1) fun y6 => cond (!y6) (some false) (cond (decide ((a0.2.2.1.length : Int) > a0.1)) (some false) (andO (F41 N a0.2.2.2.1) fun y7 => cond (!y7) (some false) (andO (F41 N a0.2.2.2.2.1) fun y8 => cond (!y8) (some false) (F11_l2 N N a0.1 a0.2.1 a0.2.2.1 a0.2.2.2.1 a0.2.2.2.2.1 a0.2.2.2.2.2.1 a0.2.2.2.2.2.2.1 a0.2.2.2.2.2.2.2.1 a0.2.2.2.2.2.2.2.2 ([a0.2.2.2.2.2.1, a0.2.2.2.2.2.2.1, a0.2.2.2.2.2.2.2.1, a0.2.2.2.2.2.2.2.2]) (([a0.2.2.2.2.2.1, a0.2.2.2.2.2.2.1, a0.2.2.2.2.2.2.2.1, a0.2.2.2.2.2.2.2.2]).length : Int) (0 : Int))))))
theorem ok11 N a0 {r} (h : F11 N a0 = some r) : Con prog 11 [.agg (lv Y24 a0)] [.lf (.v .bool r)] := by
 refine ctr [.lf (.v .bool)] K func11 rfl fun w0 E0 ht => ?_
 unfold F11 at h
 show VW _ _ _ _ _ (retQ _ _ _ _) _
 refine nR K (tn 2) <| sq <| sq <| VW.region <| nG K 2 (tn 2) ?_
 obtain⟨y5,hy,h⟩:=aS h
 refine clc false [.t (.int .i64)] [] (some 11) K (ok39 N _ hy) <| nG K 2 (tn 2) ?_
 refine spC 13 h ?_ ?_<;>intro h
 ·refine nN K (tn 25) ?_
  refine VW.cond (b := true) (by kernel_rfl) (fun _ => ?_) (fun h' => nomatch h')
  refine nR K (tn 1) ?_
  cases h; exact VW.ret (rt [])
 refine nG K 2 (tn 2) <| VO.on (j := 4) (want := false) (d := 13) (b := false) rfl rfl rfl (by kernel_rfl) rfl ?_
 obtain⟨y6,hy,h⟩:=aS h
 refine clc false [.t (.sl Y75)] [] (some 16) K (ok40 N _ hy) <| nG K 3 (tn 3) ?_
 refine spC 19 h ?_ ?_<;>intro h
 ·refine nN K (tn 19) ?_
  refine VW.cond (b := true) (by kernel_rfl) (fun _ => ?_) (fun h' => nomatch h')
  refine nR K (tn 1) ?_
  cases h; exact VW.ret (rt [])
 refine nG K 8 (tn 8) ?_
 refine spC 27 h ?_ ?_<;>intro h
 ·refine nN K (tn 11) ?_
  refine VW.cond (b := true) (by kernel_rfl) (fun _ => ?_) (fun h' => nomatch h')
  refine nR K (tn 1) ?_
  cases h; exact VW.ret (rt [])
 refine nG K 2 (tn 2) <| VO.on (j := 18) (want := false) (d := 27) (b := false) rfl rfl rfl (by kernel_rfl) rfl ?_
 obtain⟨y7,hy,h⟩:=aS h
 refine clc false [.t (.int .i64)] [] (some 30) K (ok41 N _ hy) <| nG K 3 (tn 3) ?_
 refine spC 33 h ?_ ?_<;>intro h
 ·refine nN K (tn 5) ?_
  refine VW.cond (b := true) (by kernel_rfl) (fun _ => ?_) (fun h' => nomatch h')
  refine nR K (tn 1) ?_
  cases h; exact VW.ret (rt [])
 refine nG K 2 (tn 2) <| VO.on (j := 24) (want := false) (d := 33) (b := false) rfl rfl rfl (by kernel_rfl) rfl ?_
 obtain⟨y8,hy,h⟩:=aS h
 refine clc false [.t (.int .i64)] [] (some 36) K (ok41 N _ hy) <| nN K (tn 2) ?_
 refine cnd h ?_ ?_<;>intro h
 ·refine nR K (tn 1) ?_
  cases h; exact VW.ret (rt [])
 refine VW.skip ?_
 refine VW.join (fun s => ∃ x51 x52 x53 x54 x55 x56 x57 x58 x59, s = ⟨[(1, .lf (.ptr 0 0 0 0))], [bx [zi x51, .v (.sl Y75) x52, .v (.sl Y52) x53, zi x54, zi x55, zi x56, zi x57, zi x58, zi x59] 31]⟩ ∧ F11_j2 N x51 x52 x53 x54 x55 x56 x57 x58 x59 = some r) ?_ ?_
 ·refine nR K (tn 11) <| VW.block <| lop (fun k s => ∃ x717 x718 x719 x720 x721 x722 x723 x724 x725 x726 x727 x728, s = ⟨[(1, .lf (.ptr 0 0 0 0)), (47, hh 1), (48, I x727), (49, I x728)], [bx [zi x717, .v (.sl Y75) x718, .v (.sl Y52) x719, zi x720, zi x721, zi x722, zi x723, zi x724, zi x725] 31, ar 0 (.int .i64) x726 .dp]⟩ ∧ F11_l2 N k x717 x718 x719 x720 x721 x722 x723 x724 x725 x726 x727 x728 = some r) N [.ren [1, 47, 48, 49] [0, 1]] ⟨a0.1, a0.2.1, a0.2.2.1, a0.2.2.2.1, a0.2.2.2.2.1, a0.2.2.2.2.2.1, a0.2.2.2.2.2.2.1, a0.2.2.2.2.2.2.2.1, a0.2.2.2.2.2.2.2.2, [a0.2.2.2.2.2.1, a0.2.2.2.2.2.2.1, a0.2.2.2.2.2.2.2.1, a0.2.2.2.2.2.2.2.2], (([a0.2.2.2.2.2.1, a0.2.2.2.2.2.2.1, a0.2.2.2.2.2.2.2.1, a0.2.2.2.2.2.2.2.2]).length : Int), (0 : Int), rfl, h⟩ ?_
  rintro k735 s ⟨x717, x718, x719, x720, x721, x722, x723, x724, x725, x726, x727, x728, rfl, h⟩
  cases k735 with
  | zero => cases show none = some r from h
  | succ k735 =>
   replace h : F11_l2_b N (F11_l2 N k735) x717 x718 x719 x720 x721 x722 x723 x724 x725 x726 x727 x728 = some r := h
   unfold F11_l2_b at h
   refine nR K (tn 1) <| sq ?_
   refine cnd h ?_ ?_<;>intro h
   ·refine VW.skip <| sq <| VW.block ?_
    obtain⟨g739,h⟩:=gS h
    obtain⟨g740,h⟩:=gS h
    refine nR K (an g739 (an g740 (tn 1))) <| sq <| VW.region <| nG K 1 (tn 1) ?_
    obtain⟨y741,hy,h⟩:=aS h
    refine clc false [.t (.int .i64), .t (.int .i64), .t (.int .i64)] [] (some 54) K (ok42 N _ _ _ hy) <| nN K (tn 1) ?_
    refine cnd h ?_ ?_<;>intro h
    ·refine nR K (tn 1) ?_
     cases h; exact VW.ret (rt [])
    refine VW.skip <| nE K (tn 2) ?_
    exact aro [.ren [1, 47, 48, 49] [0, 1]] ⟨x717, x718, x719, x720, x721, x722, x723, x724, x725, x726, x727, (wr (x728 + (1 : Int))), rfl, h⟩
   refine VW.exit ?_
   exact arv [.ren [1] [0]] ⟨x717, x718, x719, x720, x721, x722, x723, x724, x725, rfl, h⟩
 rintro s ⟨x51, x52, x53, x54, x55, x56, x57, x58, x59, rfl, h⟩
 unfold F11_j2 at h
 refine VW.join (fun s => s = ⟨[], []⟩ ∧ F11_j0 N = some r) ?_ ?_
 ·refine nR K (tn 4) <| VW.block <| lop (fun k s => ∃ x486 x487, s = ⟨[(1, .lf (.ptr 0 0 0 0)), (58, Vv (.sl Y52) x53), (59, I x486), (60, I x487)], [bx [zi x51, .v (.sl Y75) x52, .v (.sl Y52) x53, zi x54, zi x55, zi x56, zi x57, zi x58, zi x59] 31]⟩ ∧ F11_l1 N x52 x53 x54 x55 k x486 x487 = some r) N [.ren [1, 58, 59, 60] [0]] ⟨(x53.length : Int), (0 : Int), rfl, h⟩ ?_
  rintro k593 s ⟨x486, x487, rfl, h⟩
  cases k593 with
  | zero => cases show none = some r from h
  | succ k593 =>
   replace h : F11_l1_b N x52 x53 x54 x55 (F11_l1 N x52 x53 x54 x55 k593) x486 x487 = some r := h
   unfold F11_l1_b at h
   refine nR K (tn 1) <| sq ?_
   refine cnd h ?_ ?_<;>intro h
   ·refine VW.skip ?_
    refine VW.join (fun s => s = ⟨[(1, .lf (.ptr 0 0 0 0)), (58, Vv (.sl Y52) x53), (59, I x486), (60, I x487)], [bx [zi x51, .v (.sl Y75) x52, .v (.sl Y52) x53, zi x54, zi x55, zi x56, zi x57, zi x58, zi x59] 31]⟩ ∧ F11_j1 N (F11_l1 N x52 x53 x54 x55 k593) x486 x487 = some r) ?_ ?_
    ·refine VW.block ?_
     obtain⟨g647,h⟩:=gS h
     refine nR K (pu 1 (an g647 (tn 4))) <| sq <| sq ?_
     obtain⟨y657,hy657,h⟩:=aS h
     rcases Bool.eq_false_or_eq_true (!y657) with hb658 | hb658
     ·replace h := cond_t h hb658
      refine dr K [(4, .cl [] (some 69) [.lf (.v .bool y657)]), (6, .lit true)] [(4, 0), (6, 0)] [] [1, 5, 6, 58, 59, 60, 102] [0, 1] (tn 38) ⟨qC false [.t (.sl Y75), .t (.sl Y64)] [] [] (some 69) K (ok43 N _ _ hy657), qB 71 hb658 K trivial, trivial⟩ ?_
      refine VW.cond (b := true) (by kernel_rfl) (fun _ => ?_) (fun h' => nomatch h')
      refine nR K (tn 1) ?_
      cases h; exact VW.ret (rt [])
     replace h := cond_f h hb658
     obtain⟨y659,hy659,h⟩:=aS h
     rcases Bool.eq_false_or_eq_true (!y659) with hb660 | hb660
     ·replace h := cond_t h hb660
      refine dr K [(4, .cl [] (some 69) [.lf (.v .bool y657)]), (6, .lit false), (11, .cl [] (some 76) [.lf (.v .bool y659)]), (14, .lit true)] [(4, 0), (6, 0), (11, 0), (14, 0)] [] [1, 5, 6, 58, 59, 60, 102] [0, 1] (tn 38) ⟨qC false [.t (.sl Y75), .t (.sl Y64)] [] [] (some 69) K (ok43 N _ _ hy657), qB 71 hb658 K trivial, qC false [.t (.sl Y75), .t (.sl Y64)] [] [] (some 76) K (ok43 N _ _ hy659), qB 79 hb660 K trivial, trivial⟩ ?_
      refine VW.cond (b := true) (by kernel_rfl) (fun _ => ?_) (fun h' => nomatch h')
      refine nR K (tn 1) ?_
      cases h; exact VW.ret (rt [])
     replace h := cond_f h hb660
     obtain⟨y661,hy661,h⟩:=aS h
     rcases Bool.eq_false_or_eq_true (((x53.getD x487.toNat D52).1) != y661) with hb662 | hb662
     ·replace h := cond_t h hb662
      refine dr K [(4, .cl [] (some 69) [.lf (.v .bool y657)]), (6, .lit false), (11, .cl [] (some 76) [.lf (.v .bool y659)]), (14, .lit false), (19, .cl [] (some 84) [.lf (.v (.int .i64) y661)]), (22, .lit true)] [(4, 0), (6, 0), (11, 0), (14, 0), (19, 0), (22, 0)] [] [1, 5, 6, 58, 59, 60, 102] [0, 1] (tn 38) ⟨qC false [.t (.sl Y75), .t (.sl Y64)] [] [] (some 69) K (ok43 N _ _ hy657), qB 71 hb658 K trivial, qC false [.t (.sl Y75), .t (.sl Y64)] [] [] (some 76) K (ok43 N _ _ hy659), qB 79 hb660 K trivial, qC false [.t (.sl Y64)] [] [] (some 84) K (ok44 N _ hy661), qB 87 hb662 K trivial, trivial⟩ ?_
      refine VW.cond (b := true) (by kernel_rfl) (fun _ => ?_) (fun h' => nomatch h')
      refine nR K (tn 1) ?_
      cases h; exact VW.ret (rt [])
     replace h := cond_f h hb662
     obtain⟨y663,hy663,h⟩:=aS h
     rcases Bool.eq_false_or_eq_true (!y663) with hb664 | hb664
     ·replace h := cond_t h hb664
      refine dr K [(4, .cl [] (some 69) [.lf (.v .bool y657)]), (6, .lit false), (11, .cl [] (some 76) [.lf (.v .bool y659)]), (14, .lit false), (19, .cl [] (some 84) [.lf (.v (.int .i64) y661)]), (22, .lit false), (27, .cl [] (some 92) [.lf (.v .bool y663)]), (30, .lit true)] [(4, 0), (6, 0), (11, 0), (14, 0), (19, 0), (22, 0), (27, 0), (30, 0)] [] [1, 5, 6, 58, 59, 60, 102] [0, 1] (tn 38) ⟨qC false [.t (.sl Y75), .t (.sl Y64)] [] [] (some 69) K (ok43 N _ _ hy657), qB 71 hb658 K trivial, qC false [.t (.sl Y75), .t (.sl Y64)] [] [] (some 76) K (ok43 N _ _ hy659), qB 79 hb660 K trivial, qC false [.t (.sl Y64)] [] [] (some 84) K (ok44 N _ hy661), qB 87 hb662 K trivial, qC false [.t (.int .i64), .t (.int .i64), .t (.int .i64)] [] [] (some 92) K (ok42 N _ _ _ hy663), qB 95 hb664 K trivial, trivial⟩ ?_
      refine VW.cond (b := true) (by kernel_rfl) (fun _ => ?_) (fun h' => nomatch h')
      refine nR K (tn 1) ?_
      cases h; exact VW.ret (rt [])
     replace h := cond_f h hb664
     obtain⟨y665,hy665,h⟩:=aS h
     refine dr K [(4, .cl [] (some 69) [.lf (.v .bool y657)]), (6, .lit false), (11, .cl [] (some 76) [.lf (.v .bool y659)]), (14, .lit false), (19, .cl [] (some 84) [.lf (.v (.int .i64) y661)]), (22, .lit false), (27, .cl [] (some 92) [.lf (.v .bool y663)]), (30, .lit false), (35, .cl [] (some 100) [.lf (.v .bool y665)])] [(4, 0), (6, 0), (11, 0), (14, 0), (19, 0), (22, 0), (27, 0), (30, 0), (35, 0)] [] [1, 5, 6, 58, 59, 60, 102] [0, 1] (tn 38) ⟨qC false [.t (.sl Y75), .t (.sl Y64)] [] [] (some 69) K (ok43 N _ _ hy657), qB 71 hb658 K trivial, qC false [.t (.sl Y75), .t (.sl Y64)] [] [] (some 76) K (ok43 N _ _ hy659), qB 79 hb660 K trivial, qC false [.t (.sl Y64)] [] [] (some 84) K (ok44 N _ hy661), qB 87 hb662 K trivial, qC false [.t (.int .i64), .t (.int .i64), .t (.int .i64)] [] [] (some 92) K (ok42 N _ _ _ hy663), qB 95 hb664 K trivial, qC false [.t (.int .i64), .t (.int .i64), .t (.int .i64)] [] [] (some 100) K (ok42 N _ _ _ hy665), trivial⟩ ?_
     refine cnd h ?_ ?_<;>intro h
     ·refine nR K (tn 1) ?_
      cases h; exact VW.ret (rt [])
     refine VW.skip <| sq <| sq ?_
     obtain⟨y668,hy668,h⟩:=aS h
     obtain⟨y669,hy669,h⟩:=aS h
     refine dr K [(4, .cl [] (some 107) [.lf (.own (.int .i64) y668 .dp)]), (6, .cl [] (some 109) [.lf (.v .bool y669)])] [(4, 0), (6, 1)] [4] [1, 5, 6, 58, 59, 60, 110] [0, 1] (tn 8) ⟨qC false [.t (.sl Y64)] [] [] (some 107) K (ok46 N _ hy668), qC false [.t (.sl Y64), .t (.int .i64)] [] [] (some 109) K (ok45 N _ _ hy669), trivial⟩ ?_
     refine cnd h ?_ ?_<;>intro h
     ·refine nR K (tn 1) ?_
      cases h; exact VW.ret (rt [])
     refine VW.skip ?_
     obtain⟨g670,h⟩:=gS h
     refine nR K (pu 3 (an g670 (tn 2))) <| VW.block <| lop (fun k s => ∃ x682 x683 x684 x685 x686 x687 x688 x689, s = ⟨[(1, .lf (.ptr 0 0 0 0)), (6, .lf (.ptr 1 0 0 0)), (58, Vv (.sl Y52) x53), (59, I x486), (60, I x487), (114, Vv (.sl Y52) x687), (115, I x688), (116, I x689)], [bx [zi x51, .v (.sl Y75) x52, .v (.sl Y52) x53, zi x54, zi x55, zi x56, zi x57, zi x58, zi x59] 31, bx [zi x682, .v (.sl Y64) x683, .v (.sl Y64) x684, zi x685, zi x686] 53]⟩ ∧ F11_l0 N (F11_l1 N x52 x53 x54 x55 k593) x486 x487 k x682 x683 x684 x685 x686 x687 x688 x689 = some r) N [.ren [1, 6, 58, 59, 60, 114, 115, 116] [0, 1]] ⟨(x53.getD x487.toNat D52).1, (x53.getD x487.toNat D52).2.1, (x53.getD x487.toNat D52).2.2.1, (x53.getD x487.toNat D52).2.2.2.1, (x53.getD x487.toNat D52).2.2.2.2, (x53.take x487.toNat), ((x53.take x487.toNat).length : Int), (0 : Int), rfl, h⟩ ?_
     rintro k694 s ⟨x682, x683, x684, x685, x686, x687, x688, x689, rfl, h⟩
     cases k694 with
     | zero => cases show none = some r from h
     | succ k694 =>
      replace h : F11_l0_b N (F11_l1 N x52 x53 x54 x55 k593) x486 x487 (F11_l0 N (F11_l1 N x52 x53 x54 x55 k593) x486 x487 k694) x682 x683 x684 x685 x686 x687 x688 x689 = some r := h
      unfold F11_l0_b at h
      refine nR K (tn 1) <| sq ?_
      refine cnd h ?_ ?_<;>intro h
      ·refine VW.skip <| sq <| VW.block ?_
       obtain⟨g697,h⟩:=gS h
       refine nR K (an g697 (tn 3)) <| sq <| VW.region <| nG K 4 (tn 4) ?_
       obtain⟨y698,hy,h⟩:=aS h
       refine clc false [.t (.sl Y64), .t (.sl Y64)] [] (some 124) K (ok47 N _ _ hy) <| nN K (tn 0) ?_
       refine cnd h ?_ ?_<;>intro h
       ·refine nR K (tn 1) ?_
        cases h; exact VW.ret (rt [])
       refine VW.skip <| nE K (tn 2) ?_
       exact aro [.ren [1, 6, 58, 59, 60, 114, 115, 116] [0, 1]] ⟨x682, x683, x684, x685, x686, x687, x688, (wr (x689 + (1 : Int))), rfl, h⟩
      refine VW.exit ?_
      exact arv [.ren [1, 58, 59, 60] [0]] ⟨rfl, h⟩
    rintro s ⟨rfl, h⟩
    unfold F11_j1 at h
    refine nE K (tn 2) ?_
    exact aro [.ren [1, 58, 59, 60] [0]] ⟨x486, (wr (x487 + (1 : Int))), rfl, h⟩
   refine VW.exit ?_
   exact arv [.ren [] []] ⟨rfl, h⟩
 rintro s ⟨rfl, h⟩
 unfold F11_j0 at h
 refine nR K (tn 1) ?_
 cases h; exact VW.ret (rt [])
def F84 (N : Nat) (a0 : Z75) (a1 : Z75) : Option (Bool) :=
  cond (!(a0.1.toList == a1.1.toList)) (some false) (cond (a0.2 != a1.2) (some false) (some true))
theorem ok84 N a0 a1 {r} (h : F84 N a0 a1 = some r) : Con prog 84 [.agg (lv Y75 a0), .agg (lv Y75 a1)] [.lf (.v .bool r)] := by
 refine ctr [.lf (.v .bool)] K func84 rfl fun w0 E0 ht => ?_
 unfold F84 at h
 show VW _ _ _ _ _ (retQ _ _ _ _) _
 refine nR K (tn 3) <| sq <| nR K (tn 5) ?_
 refine cnd h ?_ ?_<;>intro h
 ·refine nR K (tn 1) ?_
  cases h; exact VW.ret (rt [])
 refine VW.skip <| sq <| nR K (tn 5) ?_
 refine cnd h ?_ ?_<;>intro h
 ·refine nR K (tn 1) ?_
  cases h; exact VW.ret (rt [])
 refine VW.skip <| nR K (tn 1) ?_
 cases h; exact VW.ret (rt [])
def F48_j0 (N : Nat) : Option (Bool) :=
  some true
def F48_l0_b (N : Nat) (a0 : (List Z75)) (a1 : (List Z75)) (nx35 : Int → Option (Bool)) (x28 : Int) : Option (Bool) :=
  cond (decide (x28 < (a0.length : Int))) (gd (InR x28 a0.length) (gd (InR x28 a1.length) (andO (F84 N (a0.getD x28.toNat (Ty.dflt Y75)) (a1.getD x28.toNat (Ty.dflt Y75))) fun y41 => cond (!y41) (some false) (nx35 (IntKind.i64.wrap (x28 + (1 : Int))))))) (F48_j0 N)
def F48_l0 (N : Nat) (a0 : (List Z75)) (a1 : (List Z75)) := loopF (F48_l0_b N a0 a1) (fun _ => none)
theorem F48_l0_s N a0 a1 {k} (hk : 0 < k) x28 : F48_l0 N a0 a1 k x28 = F48_l0_b N a0 a1 (F48_l0 N a0 a1 (k - 1)) x28 := by cases k;cases hk;rfl
def F48 (N : Nat) (a0 : (List Z75)) (a1 : (List Z75)) : Option (Bool) :=
  cond ((a0.length : Int) != (a1.length : Int)) (some false) (F48_l0 N a0 a1 N (0 : Int))
theorem ok48 N a0 a1 {r} (h : F48 N a0 a1 = some r) : Con prog 48 [Vv (.sl Y75) a0, Vv (.sl Y75) a1] [.lf (.v .bool r)] := by
 refine ctr [.lf (.v .bool)] K func48 rfl fun w0 E0 ht => ?_
 unfold F48 at h
 show VW _ _ _ _ _ (retQ _ _ _ _) _
 refine nR K (tn 1) <| sq <| nR K (tn 5) ?_
 refine cnd h ?_ ?_<;>intro h
 ·refine nR K (tn 1) ?_
  cases h; exact VW.ret (rt [])
 refine VW.skip ?_
 refine VW.join (fun s => s = ⟨[], []⟩ ∧ F48_j0 N = some r) ?_ ?_
 ·refine nR K (tn 1) <| VW.block <| lop (fun k s => ∃ x28, s = ⟨[(0, Vv (.sl Y75) a0), (1, Vv (.sl Y75) a1), (5, I x28)], []⟩ ∧ F48_l0 N a0 a1 k x28 = some r) N [.ren [0, 1, 5] []] ⟨(0 : Int), rfl, h⟩ ?_
  rintro k35 s ⟨x28, rfl, h⟩
  cases k35 with
  | zero => cases show none = some r from h
  | succ k35 =>
   replace h : F48_l0_b N a0 a1 (F48_l0 N a0 a1 k35) x28 = some r := h
   unfold F48_l0_b at h
   refine sq <| nR K (tn 4) ?_
   refine cnd h ?_ ?_<;>intro h
   ·refine VW.skip <| sq <| VW.block <| sq ?_
    obtain⟨g39,h⟩:=gS h
    obtain⟨g40,h⟩:=gS h
    obtain⟨y41,hy41,h⟩:=aS h
    refine dr K [(8, .cl [] (some 25) [.lf (.v .bool y41)])] [(8, 0)] [] [0, 1, 5, 26] [] (pu 2 (an g39 (pu 3 (an g40 (tn 3))))) ⟨qC false [.t Y75, .t Y75] [] [] (some 25) K (ok84 N _ _ hy41), trivial⟩ ?_
    refine cnd h ?_ ?_<;>intro h
    ·refine nR K (tn 1) ?_
     cases h; exact VW.ret (rt [])
    refine VW.skip <| nE K (tn 3) ?_
    exact aro [.ren [0, 1, 5] []] ⟨(wr (x28 + (1 : Int))), rfl, h⟩
   refine VW.exit ?_
   exact arv [.ren [] []] ⟨rfl, h⟩
 rintro s ⟨rfl, h⟩
 unfold F48_j0 at h
 refine nR K (tn 1) ?_
 cases h; exact VW.ret (rt [])
def F90_j0 (N : Nat) : Option (Bool) :=
  some true
def F90_l0_b (N : Nat) (a0 : (List Int)) (a1 : (List Int)) (nx25 : Int → Option (Bool)) (x20 : Int) : Option (Bool) :=
  cond (decide (x20 < (a0.length : Int))) (gd (InR x20 a0.length) (gd (InR x20 a1.length) (cond ((a0.getD x20.toNat (Ty.dflt (.int .i64))) != (a1.getD x20.toNat (Ty.dflt (.int .i64)))) (some false) (nx25 (IntKind.i64.wrap (x20 + (1 : Int))))))) (F90_j0 N)
def F90_l0 (N : Nat) (a0 : (List Int)) (a1 : (List Int)) := loopF (F90_l0_b N a0 a1) (fun _ => none)
theorem F90_l0_s N a0 a1 {k} (hk : 0 < k) x20 : F90_l0 N a0 a1 k x20 = F90_l0_b N a0 a1 (F90_l0 N a0 a1 (k - 1)) x20 := by cases k;cases hk;rfl
def F90 (N : Nat) (a0 : (List Int)) (a1 : (List Int)) : Option (Bool) :=
  cond ((a0.length : Int) != (a1.length : Int)) (some false) (F90_l0 N a0 a1 N (0 : Int))
theorem ok90 N a0 a1 {r} (h : F90 N a0 a1 = some r) : Con prog 90 [Vv (.sl (.int .i64)) a0, Vv (.sl (.int .i64)) a1] [.lf (.v .bool r)] := by
 refine ctr [.lf (.v .bool)] K func90 rfl fun w0 E0 ht => ?_
 unfold F90 at h
 show VW _ _ _ _ _ (retQ _ _ _ _) _
 refine nR K (tn 1) <| sq <| nR K (tn 5) ?_
 refine cnd h ?_ ?_<;>intro h
 ·refine nR K (tn 1) ?_
  cases h; exact VW.ret (rt [])
 refine VW.skip ?_
 refine VW.join (fun s => s = ⟨[], []⟩ ∧ F90_j0 N = some r) ?_ ?_
 ·refine nR K (tn 1) <| VW.block <| lop (fun k s => ∃ x20, s = ⟨[(0, Vv (.sl (.int .i64)) a0), (1, Vv (.sl (.int .i64)) a1), (5, I x20)], []⟩ ∧ F90_l0 N a0 a1 k x20 = some r) N [.ren [0, 1, 5] []] ⟨(0 : Int), rfl, h⟩ ?_
  rintro k25 s ⟨x20, rfl, h⟩
  cases k25 with
  | zero => cases show none = some r from h
  | succ k25 =>
   replace h : F90_l0_b N a0 a1 (F90_l0 N a0 a1 k25) x20 = some r := h
   unfold F90_l0_b at h
   refine sq <| nR K (tn 4) ?_
   refine cnd h ?_ ?_<;>intro h
   ·refine VW.skip <| sq <| VW.block <| sq ?_
    obtain⟨g28,h⟩:=gS h
    obtain⟨g29,h⟩:=gS h
    refine dr K [] [] [] [0, 1, 5, 25] [] (pu 2 (an g28 (pu 3 (an g29 (tn 2))))) trivial ?_
    refine cnd h ?_ ?_<;>intro h
    ·refine nR K (tn 1) ?_
     cases h; exact VW.ret (rt [])
    refine VW.skip <| nE K (tn 3) ?_
    exact aro [.ren [0, 1, 5] []] ⟨(wr (x20 + (1 : Int))), rfl, h⟩
   refine VW.exit ?_
   exact arv [.ren [] []] ⟨rfl, h⟩
 rintro s ⟨rfl, h⟩
 unfold F90_j0 at h
 refine nR K (tn 1) ?_
 cases h; exact VW.ret (rt [])
def F54 (N : Nat) (a0 : Z64) (a1 : Z64) : Option (Bool) :=
  cond (a0.1 != a1.1) (some false) (cond (!(a0.2.1.toList == a1.2.1.toList)) (some false) (cond (a0.2.2.1 != a1.2.2.1) (some false) (cond (a0.2.2.2.1 != a1.2.2.2.1) (some false) (cond (a0.2.2.2.2.1 != a1.2.2.2.2.1) (some false) (cond (!(a0.2.2.2.2.2.1 == a1.2.2.2.2.2.1)) (some false) (andO (F90 N a0.2.2.2.2.2.2 a1.2.2.2.2.2.2) fun y2 => cond (!y2) (some false) (some true)))))))
theorem ok54 N a0 a1 {r} (h : F54 N a0 a1 = some r) : Con prog 54 [.agg (lv Y64 a0), .agg (lv Y64 a1)] [.lf (.v .bool r)] := by
 refine ctr [.lf (.v .bool)] K func54 rfl fun w0 E0 ht => ?_
 unfold F54 at h
 show VW _ _ _ _ _ (retQ _ _ _ _) _
 refine nR K (tn 3) <| sq <| nR K (tn 5) ?_
 refine cnd h ?_ ?_<;>intro h
 ·refine nR K (tn 1) ?_
  cases h; exact VW.ret (rt [])
 refine VW.skip <| sq <| nR K (tn 5) ?_
 refine cnd h ?_ ?_<;>intro h
 ·refine nR K (tn 1) ?_
  cases h; exact VW.ret (rt [])
 refine VW.skip <| sq <| nR K (tn 5) ?_
 refine cnd h ?_ ?_<;>intro h
 ·refine nR K (tn 1) ?_
  cases h; exact VW.ret (rt [])
 refine VW.skip <| sq <| nR K (tn 5) ?_
 refine cnd h ?_ ?_<;>intro h
 ·refine nR K (tn 1) ?_
  cases h; exact VW.ret (rt [])
 refine VW.skip <| sq <| nR K (tn 5) ?_
 refine cnd h ?_ ?_<;>intro h
 ·refine nR K (tn 1) ?_
  cases h; exact VW.ret (rt [])
 refine VW.skip <| sq <| nR K (tn 5) ?_
 refine cnd h ?_ ?_<;>intro h
 ·refine nR K (tn 1) ?_
  cases h; exact VW.ret (rt [])
 refine VW.skip <| sq <| sq <| VW.region <| nG K 4 (tn 4) ?_
 obtain⟨y2,hy,h⟩:=aS h
 refine clc false [.t (.sl (.int .i64)), .t (.sl (.int .i64))] [] (some 39) K (ok90 N _ _ hy) <| nN K (tn 1) ?_
 refine cnd h ?_ ?_<;>intro h
 ·refine nR K (tn 1) ?_
  cases h; exact VW.ret (rt [])
 refine VW.skip <| nR K (tn 1) ?_
 cases h; exact VW.ret (rt [])
def F17_j0 (N : Nat) : Option (Bool) :=
  some true
def F17_l0_b (N : Nat) (a0 : (List Z64)) (a1 : (List Z64)) (nx35 : Int → Option (Bool)) (x28 : Int) : Option (Bool) :=
  cond (decide (x28 < (a0.length : Int))) (gd (InR x28 a0.length) (gd (InR x28 a1.length) (andO (F54 N (a0.getD x28.toNat (Ty.dflt Y64)) (a1.getD x28.toNat (Ty.dflt Y64))) fun y41 => cond (!y41) (some false) (nx35 (IntKind.i64.wrap (x28 + (1 : Int))))))) (F17_j0 N)
def F17_l0 (N : Nat) (a0 : (List Z64)) (a1 : (List Z64)) := loopF (F17_l0_b N a0 a1) (fun _ => none)
theorem F17_l0_s N a0 a1 {k} (hk : 0 < k) x28 : F17_l0 N a0 a1 k x28 = F17_l0_b N a0 a1 (F17_l0 N a0 a1 (k - 1)) x28 := by cases k;cases hk;rfl
def F17 (N : Nat) (a0 : (List Z64)) (a1 : (List Z64)) : Option (Bool) :=
  cond ((a0.length : Int) != (a1.length : Int)) (some false) (F17_l0 N a0 a1 N (0 : Int))
theorem ok17 N a0 a1 {r} (h : F17 N a0 a1 = some r) : Con prog 17 [Vv (.sl Y64) a0, Vv (.sl Y64) a1] [.lf (.v .bool r)] := by
 refine ctr [.lf (.v .bool)] K func17 rfl fun w0 E0 ht => ?_
 unfold F17 at h
 show VW _ _ _ _ _ (retQ _ _ _ _) _
 refine nR K (tn 1) <| sq <| nR K (tn 5) ?_
 refine cnd h ?_ ?_<;>intro h
 ·refine nR K (tn 1) ?_
  cases h; exact VW.ret (rt [])
 refine VW.skip ?_
 refine VW.join (fun s => s = ⟨[], []⟩ ∧ F17_j0 N = some r) ?_ ?_
 ·refine nR K (tn 1) <| VW.block <| lop (fun k s => ∃ x28, s = ⟨[(0, Vv (.sl Y64) a0), (1, Vv (.sl Y64) a1), (5, I x28)], []⟩ ∧ F17_l0 N a0 a1 k x28 = some r) N [.ren [0, 1, 5] []] ⟨(0 : Int), rfl, h⟩ ?_
  rintro k35 s ⟨x28, rfl, h⟩
  cases k35 with
  | zero => cases show none = some r from h
  | succ k35 =>
   replace h : F17_l0_b N a0 a1 (F17_l0 N a0 a1 k35) x28 = some r := h
   unfold F17_l0_b at h
   refine sq <| nR K (tn 4) ?_
   refine cnd h ?_ ?_<;>intro h
   ·refine VW.skip <| sq <| VW.block <| sq ?_
    obtain⟨g39,h⟩:=gS h
    obtain⟨g40,h⟩:=gS h
    obtain⟨y41,hy41,h⟩:=aS h
    refine dr K [(8, .cl [] (some 25) [.lf (.v .bool y41)])] [(8, 0)] [] [0, 1, 5, 26] [] (pu 2 (an g39 (pu 3 (an g40 (tn 3))))) ⟨qC false [.t Y64, .t Y64] [] [] (some 25) K (ok54 N _ _ hy41), trivial⟩ ?_
    refine cnd h ?_ ?_<;>intro h
    ·refine nR K (tn 1) ?_
     cases h; exact VW.ret (rt [])
    refine VW.skip <| nE K (tn 3) ?_
    exact aro [.ren [0, 1, 5] []] ⟨(wr (x28 + (1 : Int))), rfl, h⟩
   refine VW.exit ?_
   exact arv [.ren [] []] ⟨rfl, h⟩
 rintro s ⟨rfl, h⟩
 unfold F17_j0 at h
 refine nR K (tn 1) ?_
 cases h; exact VW.ret (rt [])
def F85 (N : Nat) (a0 : Z52) (a1 : Z52) : Option (Bool) :=
  cond (a0.1 != a1.1) (some false) (andO (F17 N a0.2.1 a1.2.1) fun y2 => cond (!y2) (some false) (andO (F17 N a0.2.2.1 a1.2.2.1) fun y4 => cond (!y4) (some false) (cond (a0.2.2.2.1 != a1.2.2.2.1) (some false) (cond (a0.2.2.2.2 != a1.2.2.2.2) (some false) (some true)))))
theorem ok85 N a0 a1 {r} (h : F85 N a0 a1 = some r) : Con prog 85 [.agg (lv Y52 a0), .agg (lv Y52 a1)] [.lf (.v .bool r)] := by
 refine ctr [.lf (.v .bool)] K func85 rfl fun w0 E0 ht => ?_
 unfold F85 at h
 show VW _ _ _ _ _ (retQ _ _ _ _) _
 refine nR K (tn 3) <| sq <| nR K (tn 5) ?_
 refine cnd h ?_ ?_<;>intro h
 ·refine nR K (tn 1) ?_
  cases h; exact VW.ret (rt [])
 refine VW.skip <| sq <| sq <| VW.region <| nG K 4 (tn 4) ?_
 obtain⟨y2,hy,h⟩:=aS h
 refine clc false [.t (.sl Y64), .t (.sl Y64)] [] (some 14) K (ok17 N _ _ hy) <| nN K (tn 1) ?_
 refine cnd h ?_ ?_<;>intro h
 ·refine nR K (tn 1) ?_
  cases h; exact VW.ret (rt [])
 refine VW.skip <| sq <| sq <| VW.region <| nG K 4 (tn 4) ?_
 obtain⟨y4,hy,h⟩:=aS h
 refine clc false [.t (.sl Y64), .t (.sl Y64)] [] (some 20) K (ok17 N _ _ hy) <| nN K (tn 1) ?_
 refine cnd h ?_ ?_<;>intro h
 ·refine nR K (tn 1) ?_
  cases h; exact VW.ret (rt [])
 refine VW.skip <| sq <| nR K (tn 5) ?_
 refine cnd h ?_ ?_<;>intro h
 ·refine nR K (tn 1) ?_
  cases h; exact VW.ret (rt [])
 refine VW.skip <| sq <| nR K (tn 5) ?_
 refine cnd h ?_ ?_<;>intro h
 ·refine nR K (tn 1) ?_
  cases h; exact VW.ret (rt [])
 refine VW.skip <| nR K (tn 1) ?_
 cases h; exact VW.ret (rt [])
def F49_j0 (N : Nat) : Option (Bool) :=
  some true
def F49_l0_b (N : Nat) (a0 : (List Z52)) (a1 : (List Z52)) (nx35 : Int → Option (Bool)) (x28 : Int) : Option (Bool) :=
  cond (decide (x28 < (a0.length : Int))) (gd (InR x28 a0.length) (gd (InR x28 a1.length) (andO (F85 N (a0.getD x28.toNat (Ty.dflt Y52)) (a1.getD x28.toNat (Ty.dflt Y52))) fun y41 => cond (!y41) (some false) (nx35 (IntKind.i64.wrap (x28 + (1 : Int))))))) (F49_j0 N)
def F49_l0 (N : Nat) (a0 : (List Z52)) (a1 : (List Z52)) := loopF (F49_l0_b N a0 a1) (fun _ => none)
theorem F49_l0_s N a0 a1 {k} (hk : 0 < k) x28 : F49_l0 N a0 a1 k x28 = F49_l0_b N a0 a1 (F49_l0 N a0 a1 (k - 1)) x28 := by cases k;cases hk;rfl
def F49 (N : Nat) (a0 : (List Z52)) (a1 : (List Z52)) : Option (Bool) :=
  cond ((a0.length : Int) != (a1.length : Int)) (some false) (F49_l0 N a0 a1 N (0 : Int))
theorem ok49 N a0 a1 {r} (h : F49 N a0 a1 = some r) : Con prog 49 [Vv (.sl Y52) a0, Vv (.sl Y52) a1] [.lf (.v .bool r)] := by
 refine ctr [.lf (.v .bool)] K func49 rfl fun w0 E0 ht => ?_
 unfold F49 at h
 show VW _ _ _ _ _ (retQ _ _ _ _) _
 refine nR K (tn 1) <| sq <| nR K (tn 5) ?_
 refine cnd h ?_ ?_<;>intro h
 ·refine nR K (tn 1) ?_
  cases h; exact VW.ret (rt [])
 refine VW.skip ?_
 refine VW.join (fun s => s = ⟨[], []⟩ ∧ F49_j0 N = some r) ?_ ?_
 ·refine nR K (tn 1) <| VW.block <| lop (fun k s => ∃ x28, s = ⟨[(0, Vv (.sl Y52) a0), (1, Vv (.sl Y52) a1), (5, I x28)], []⟩ ∧ F49_l0 N a0 a1 k x28 = some r) N [.ren [0, 1, 5] []] ⟨(0 : Int), rfl, h⟩ ?_
  rintro k35 s ⟨x28, rfl, h⟩
  cases k35 with
  | zero => cases show none = some r from h
  | succ k35 =>
   replace h : F49_l0_b N a0 a1 (F49_l0 N a0 a1 k35) x28 = some r := h
   unfold F49_l0_b at h
   refine sq <| nR K (tn 4) ?_
   refine cnd h ?_ ?_<;>intro h
   ·refine VW.skip <| sq <| VW.block <| sq ?_
    obtain⟨g39,h⟩:=gS h
    obtain⟨g40,h⟩:=gS h
    obtain⟨y41,hy41,h⟩:=aS h
    refine dr K [(8, .cl [] (some 25) [.lf (.v .bool y41)])] [(8, 0)] [] [0, 1, 5, 26] [] (pu 2 (an g39 (pu 3 (an g40 (tn 3))))) ⟨qC false [.t Y52, .t Y52] [] [] (some 25) K (ok85 N _ _ hy41), trivial⟩ ?_
    refine cnd h ?_ ?_<;>intro h
    ·refine nR K (tn 1) ?_
     cases h; exact VW.ret (rt [])
    refine VW.skip <| nE K (tn 3) ?_
    exact aro [.ren [0, 1, 5] []] ⟨(wr (x28 + (1 : Int))), rfl, h⟩
   refine VW.exit ?_
   exact arv [.ren [] []] ⟨rfl, h⟩
 rintro s ⟨rfl, h⟩
 unfold F49_j0 at h
 refine nR K (tn 1) ?_
 cases h; exact VW.ret (rt [])
def F12 (N : Nat) (a0 : Z24) (a1 : Z24) : Option (Bool) :=
  cond (a0.1 != a1.1) (some false) (andO (F48 N a0.2.1 a1.2.1) fun y2 => cond (!y2) (some false) (andO (F49 N a0.2.2.1 a1.2.2.1) fun y4 => cond (!y4) (some false) (cond (a0.2.2.2.1 != a1.2.2.2.1) (some false) (cond (a0.2.2.2.2.1 != a1.2.2.2.2.1) (some false) (cond (a0.2.2.2.2.2.1 != a1.2.2.2.2.2.1) (some false) (cond (a0.2.2.2.2.2.2.1 != a1.2.2.2.2.2.2.1) (some false) (cond (a0.2.2.2.2.2.2.2.1 != a1.2.2.2.2.2.2.2.1) (some false) (cond (a0.2.2.2.2.2.2.2.2 != a1.2.2.2.2.2.2.2.2) (some false) (some true)))))))))
theorem ok12 N a0 a1 {r} (h : F12 N a0 a1 = some r) : Con prog 12 [.agg (lv Y24 a0), .agg (lv Y24 a1)] [.lf (.v .bool r)] := by
 refine ctr [.lf (.v .bool)] K func12 rfl fun w0 E0 ht => ?_
 unfold F12 at h
 show VW _ _ _ _ _ (retQ _ _ _ _) _
 refine nR K (tn 3) <| sq <| nR K (tn 5) ?_
 refine cnd h ?_ ?_<;>intro h
 ·refine nR K (tn 1) ?_
  cases h; exact VW.ret (rt [])
 refine VW.skip <| sq <| sq <| VW.region <| nG K 4 (tn 4) ?_
 obtain⟨y2,hy,h⟩:=aS h
 refine clc false [.t (.sl Y75), .t (.sl Y75)] [] (some 14) K (ok48 N _ _ hy) <| nN K (tn 1) ?_
 refine cnd h ?_ ?_<;>intro h
 ·refine nR K (tn 1) ?_
  cases h; exact VW.ret (rt [])
 refine VW.skip <| sq <| sq <| VW.region <| nG K 4 (tn 4) ?_
 obtain⟨y4,hy,h⟩:=aS h
 refine clc false [.t (.sl Y52), .t (.sl Y52)] [] (some 20) K (ok49 N _ _ hy) <| nN K (tn 1) ?_
 refine cnd h ?_ ?_<;>intro h
 ·refine nR K (tn 1) ?_
  cases h; exact VW.ret (rt [])
 refine VW.skip <| sq <| nR K (tn 5) ?_
 refine cnd h ?_ ?_<;>intro h
 ·refine nR K (tn 1) ?_
  cases h; exact VW.ret (rt [])
 refine VW.skip <| sq <| nR K (tn 5) ?_
 refine cnd h ?_ ?_<;>intro h
 ·refine nR K (tn 1) ?_
  cases h; exact VW.ret (rt [])
 refine VW.skip <| sq <| nR K (tn 5) ?_
 refine cnd h ?_ ?_<;>intro h
 ·refine nR K (tn 1) ?_
  cases h; exact VW.ret (rt [])
 refine VW.skip <| sq <| nR K (tn 5) ?_
 refine cnd h ?_ ?_<;>intro h
 ·refine nR K (tn 1) ?_
  cases h; exact VW.ret (rt [])
 refine VW.skip <| sq <| nR K (tn 5) ?_
 refine cnd h ?_ ?_<;>intro h
 ·refine nR K (tn 1) ?_
  cases h; exact VW.ret (rt [])
 refine VW.skip <| sq <| nR K (tn 5) ?_
 refine cnd h ?_ ?_<;>intro h
 ·refine sR K [4] [] ⟨[(4, B false)], []⟩ (tn 1) ?_
  cases h; exact VW.ret (rt [])
 refine VW.skip <| sR K [4] [] ⟨[(4, B true)], []⟩ (tn 1) ?_
 cases h; exact VW.ret (rt [])
def F91_j0 (N : Nat) (x16 : (List Z75)) : Option ((List Z75)) :=
  some x16
def F91_l0_b (N : Nat) (a0 : (List Z75)) (nx28 : (List Z75) → Int → Option ((List Z75))) (x22 : (List Z75)) (x23 : Int) : Option ((List Z75)) :=
  cond (decide (x23 < (a0.length : Int))) (gd (InR x23 a0.length) (gd (x22.length + ([(a0.getD x23.toNat (Ty.dflt Y75))]).length ≤ lim Y75) (nx28 (x22 ++ ([(a0.getD x23.toNat (Ty.dflt Y75))])) (IntKind.i64.wrap (x23 + (1 : Int)))))) (F91_j0 N x22)
def F91_l0 (N : Nat) (a0 : (List Z75)) := loopF (F91_l0_b N a0) (fun _ _ => none)
theorem F91_l0_s N a0 {k} (hk : 0 < k) x22 x23 : F91_l0 N a0 k x22 x23 = F91_l0_b N a0 (F91_l0 N a0 (k - 1)) x22 x23 := by cases k;cases hk;rfl
def F91 (N : Nat) (a0 : (List Z75)) : Option ((List Z75)) :=
  F91_l0 N a0 N ([]) (0 : Int)
theorem ok91 N a0 {r} (h : F91 N a0 = some r) : Con prog 91 [Vv (.sl Y75) a0] [.lf (.own Y75 r .dp)] := by
 refine ctr [.lf (.own Y75 .dp)] K func91 rfl fun w0 E0 ht => ?_
 unfold F91 at h
 show VW _ _ _ _ _ (retQ _ _ _ _) _
 refine nR K (tn 1) <| nR K (tn 2) ?_
 refine VW.join (fun s => ∃ x16, s = ⟨[(3, hh 0)], [ar 0 Y75 x16 .dp]⟩ ∧ F91_j0 N x16 = some r) ?_ ?_
 ·refine nR K (tn 1) <| VW.block <| lop (fun k s => ∃ x22 x23, s = ⟨[(0, Vv (.sl Y75) a0), (3, hh 0), (4, I x23)], [ar 0 Y75 x22 .dp]⟩ ∧ F91_l0 N a0 k x22 x23 = some r) N [.nilS 3 Y75 .dp, .ren [0, 3, 4] [0]] ⟨[], (0 : Int), rfl, h⟩ ?_
  rintro k28 s ⟨x22, x23, rfl, h⟩
  cases k28 with
  | zero => cases show none = some r from h
  | succ k28 =>
   replace h : F91_l0_b N a0 (F91_l0 N a0 k28) x22 x23 = some r := h
   unfold F91_l0_b at h
   refine sq <| nR K (tn 4) ?_
   refine cnd h ?_ ?_<;>intro h
   ·refine VW.skip <| sq <| VW.block ?_
    obtain⟨g31,h⟩:=gS h
    obtain⟨g32,h⟩:=gS h
    refine nE K (pu 3 (an g31 (pu 2 (an g32 (tn 1))))) <| nE K (tn 3) ?_
    exact aro [.ren [0, 3, 4] [0]] ⟨(x22 ++ ([(a0.getD x23.toNat D75)])), (wr (x23 + (1 : Int))), rfl, h⟩
   refine VW.exit ?_
   exact arv [.ren [3] [0]] ⟨x22, rfl, h⟩
 rintro s ⟨x16, rfl, h⟩
 unfold F91_j0 at h
 refine nR K (tn 2) ?_
 cases h; exact VW.ret (rt [some 0])
def F158_j0 (N : Nat) (x16 : (List Int)) : Option ((List Int)) :=
  some x16
def F158_l0_b (N : Nat) (a0 : (List Int)) (nx28 : (List Int) → Int → Option ((List Int))) (x22 : (List Int)) (x23 : Int) : Option ((List Int)) :=
  cond (decide (x23 < (a0.length : Int))) (gd (InR x23 a0.length) (gd (x22.length + ([(a0.getD x23.toNat (Ty.dflt (.int .i64)))]).length ≤ lim (.int .i64)) (nx28 (x22 ++ ([(a0.getD x23.toNat (Ty.dflt (.int .i64)))])) (IntKind.i64.wrap (x23 + (1 : Int)))))) (F158_j0 N x22)
def F158_l0 (N : Nat) (a0 : (List Int)) := loopF (F158_l0_b N a0) (fun _ _ => none)
theorem F158_l0_s N a0 {k} (hk : 0 < k) x22 x23 : F158_l0 N a0 k x22 x23 = F158_l0_b N a0 (F158_l0 N a0 (k - 1)) x22 x23 := by cases k;cases hk;rfl
def F158 (N : Nat) (a0 : (List Int)) : Option ((List Int)) :=
  F158_l0 N a0 N ([]) (0 : Int)
theorem ok158 N a0 {r} (h : F158 N a0 = some r) : Con prog 158 [Vv (.sl (.int .i64)) a0] [.lf (.own (.int .i64) r .dp)] := by
 refine ctr [.lf (.own (.int .i64) .dp)] K func158 rfl fun w0 E0 ht => ?_
 unfold F158 at h
 show VW _ _ _ _ _ (retQ _ _ _ _) _
 refine nR K (tn 1) <| nR K (tn 2) ?_
 refine VW.join (fun s => ∃ x16, s = ⟨[(3, hh 0)], [ar 0 (.int .i64) x16 .dp]⟩ ∧ F158_j0 N x16 = some r) ?_ ?_
 ·refine nR K (tn 1) <| VW.block <| lop (fun k s => ∃ x22 x23, s = ⟨[(0, Vv (.sl (.int .i64)) a0), (3, hh 0), (4, I x23)], [ar 0 (.int .i64) x22 .dp]⟩ ∧ F158_l0 N a0 k x22 x23 = some r) N [.nilS 3 (.int .i64) .dp, .ren [0, 3, 4] [0]] ⟨[], (0 : Int), rfl, h⟩ ?_
  rintro k28 s ⟨x22, x23, rfl, h⟩
  cases k28 with
  | zero => cases show none = some r from h
  | succ k28 =>
   replace h : F158_l0_b N a0 (F158_l0 N a0 k28) x22 x23 = some r := h
   unfold F158_l0_b at h
   refine sq <| nR K (tn 4) ?_
   refine cnd h ?_ ?_<;>intro h
   ·refine VW.skip <| sq <| VW.block ?_
    obtain⟨g31,h⟩:=gS h
    obtain⟨g32,h⟩:=gS h
    refine nE K (pu 3 (an g31 (pu 2 (an g32 (tn 1))))) <| nE K (tn 3) ?_
    exact aro [.ren [0, 3, 4] [0]] ⟨(x22 ++ ([(a0.getD x23.toNat (Ty.dflt (.int .i64)))])), (wr (x23 + (1 : Int))), rfl, h⟩
   refine VW.exit ?_
   exact arv [.ren [3] [0]] ⟨x22, rfl, h⟩
 rintro s ⟨x16, rfl, h⟩
 unfold F158_j0 at h
 refine nR K (tn 2) ?_
 cases h; exact VW.ret (rt [some 0])
def F117_j0 (N : Nat) (x100 : (List Z64)) : Option ((List Z64)) :=
  some x100
def F117_j1 (N : Nat) (nx168 : (List Z64) → Int → Option ((List Z64))) (x134 : (List Z64)) (x135 : Int) (x189 : Int) (x190 : ByteArray) (x191 : Int) (x192 : Int) (x193 : Int) (x194 : Bool) (x195 : (List Int)) : Option ((List Z64)) :=
  gd (x134.length + ([(x189, (x190, (x191, (x192, (x193, (x194, x195))))))]).length ≤ lim Y64) (nx168 (x134 ++ ([(x189, (x190, (x191, (x192, (x193, (x194, x195))))))])) (IntKind.i64.wrap (x135 + (1 : Int))))
def F117_l0_b (N : Nat) (a0 : (List Z64)) (nx168 : (List Z64) → Int → Option ((List Z64))) (x134 : (List Z64)) (x135 : Int) : Option ((List Z64)) :=
  cond (decide (x135 < (a0.length : Int))) (gd (InR x135 a0.length) (gd (InR x135 a0.length) (cond (decide ((((a0.getD x135.toNat (Ty.dflt Y64)).2.2.2.2.2.2).length : Int) > (0 : Int))) (gd (InR x135 a0.length) (andO (F158 N ((a0.getD x135.toNat (Ty.dflt Y64)).2.2.2.2.2.2)) fun y200 => F117_j1 N nx168 x134 x135 ((a0.getD x135.toNat (Ty.dflt Y64)).1) ((a0.getD x135.toNat (Ty.dflt Y64)).2.1) ((a0.getD x135.toNat (Ty.dflt Y64)).2.2.1) ((a0.getD x135.toNat (Ty.dflt Y64)).2.2.2.1) ((a0.getD x135.toNat (Ty.dflt Y64)).2.2.2.2.1) ((a0.getD x135.toNat (Ty.dflt Y64)).2.2.2.2.2.1) y200)) (F117_j1 N nx168 x134 x135 ((a0.getD x135.toNat (Ty.dflt Y64)).1) ((a0.getD x135.toNat (Ty.dflt Y64)).2.1) ((a0.getD x135.toNat (Ty.dflt Y64)).2.2.1) ((a0.getD x135.toNat (Ty.dflt Y64)).2.2.2.1) ((a0.getD x135.toNat (Ty.dflt Y64)).2.2.2.2.1) ((a0.getD x135.toNat (Ty.dflt Y64)).2.2.2.2.2.1) ([]))))) (F117_j0 N x134)
def F117_l0 (N : Nat) (a0 : (List Z64)) := loopF (F117_l0_b N a0) (fun _ _ => none)
theorem F117_l0_s N a0 {k} (hk : 0 < k) x134 x135 : F117_l0 N a0 k x134 x135 = F117_l0_b N a0 (F117_l0 N a0 (k - 1)) x134 x135 := by cases k;cases hk;rfl
def F117 (N : Nat) (a0 : (List Z64)) : Option ((List Z64)) :=
  F117_l0 N a0 N ([]) (0 : Int)
theorem ok117 N a0 {r} (h : F117 N a0 = some r) : Con prog 117 [Vv (.sl Y64) a0] [.lf (.own Y64 r .dp)] := by
 refine ctr [.lf (.own Y64 .dp)] K func117 rfl fun w0 E0 ht => ?_
 unfold F117 at h
 show VW _ _ _ _ _ (retQ _ _ _ _) _
 refine nR K (tn 1) <| nR K (tn 2) ?_
 refine VW.join (fun s => ∃ x100, s = ⟨[(3, hh 0)], [ar 0 Y64 x100 .dp]⟩ ∧ F117_j0 N x100 = some r) ?_ ?_
 ·refine nR K (tn 1) <| VW.block <| lop (fun k s => ∃ x134 x135, s = ⟨[(0, Vv (.sl Y64) a0), (3, hh 0), (4, I x135)], [ar 0 Y64 x134 .dp]⟩ ∧ F117_l0 N a0 k x134 x135 = some r) N [.nilS 3 Y64 .dp, .ren [0, 3, 4] [0]] ⟨[], (0 : Int), rfl, h⟩ ?_
  rintro k168 s ⟨x134, x135, rfl, h⟩
  cases k168 with
  | zero => cases show none = some r from h
  | succ k168 =>
   replace h : F117_l0_b N a0 (F117_l0 N a0 k168) x134 x135 = some r := h
   unfold F117_l0_b at h
   refine sq <| nR K (tn 4) ?_
   refine cnd h ?_ ?_<;>intro h
   ·refine VW.skip <| sq <| VW.block ?_
    obtain⟨g185,h⟩:=gS h
    refine nR K (pu 2 (an g185 (tn 3))) <| nR K (tn 2) ?_
    refine VW.join (fun s => ∃ x189 x190 x191 x192 x193 x194 x195, s = ⟨[(0, Vv (.sl Y64) a0), (3, hh 0), (4, I x135), (5, .lf (.ptr 1 0 0 0))], [ar 0 Y64 x134 .dp, bx [zi x189, zs x190, zi x191, zi x192, zi x193, zb x194, .hd 2 0 none] 66, ar 0 (.int .i64) x195 .dp]⟩ ∧ F117_j1 N (F117_l0 N a0 k168) x134 x135 x189 x190 x191 x192 x193 x194 x195 = some r) ?_ ?_
    ·obtain⟨g198,h⟩:=gS h
     refine nR K (pu 2 (an g198 (tn 4))) ?_
     refine cnd h ?_ ?_<;>intro h
     ·refine VW.region ?_
      obtain⟨g199,h⟩:=gS h
      refine nG K 5 (pu 2 (an g199 (tn 2))) ?_
      obtain⟨y200,hy,h⟩:=aS h
      refine clc false [.t (.sl (.int .i64))] [] (some 30) K (ok158 N _ hy) <| nN K (tn 2) ?_
      exact arv [.ren [0, 3, 4, 5] [0, 1, 2]] ⟨(a0.getD x135.toNat D64).1, (a0.getD x135.toNat D64).2.1, (a0.getD x135.toNat D64).2.2.1, (a0.getD x135.toNat D64).2.2.2.1, (a0.getD x135.toNat D64).2.2.2.2.1, (a0.getD x135.toNat D64).2.2.2.2.2.1, y200, rfl, h⟩
     refine VW.skip ?_
     exact arv [.nil 1 6 (.int .i64) .dp, .ren [0, 3, 4, 5] [0, 1, 2]] ⟨(a0.getD x135.toNat D64).1, (a0.getD x135.toNat D64).2.1, (a0.getD x135.toNat D64).2.2.1, (a0.getD x135.toNat D64).2.2.2.1, (a0.getD x135.toNat D64).2.2.2.2.1, (a0.getD x135.toNat D64).2.2.2.2.2.1, [], rfl, h⟩
    rintro s ⟨x189, x190, x191, x192, x193, x194, x195, rfl, h⟩
    unfold F117_j1 at h
    refine VW.region <| nG K 2 (tn 2) <| VO.litA (d := 34) (v := hh 3) (H' := [ar 0 Y64 x134 .dp, bx [zi x189, zs x190, zi x191, zi x192, zi x193, zb x194, .hd 2 0 none] 66, none, ar 0 Y64 ([(x189, (x190, (x191, (x192, (x193, (x194, x195))))))]) .dp]) K (by kernel_rfl) ?_
    obtain⟨g196,h⟩:=gS h
    refine VO.appM (d := 35) (φ := x134.length + ([(x189, (x190, (x191, (x192, (x193, (x194, x195))))))]).length ≤ lim Y64) (v := .lf (.hd 0 1 none)) (H' := [ar 1 Y64 (x134 ++ ([(x189, (x190, (x191, (x192, (x193, (x194, x195))))))])) .dp, bx [zi x189, zs x190, zi x191, zi x192, zi x193, zb x194, .hd 2 0 none] 66, none, none]) K (by kernel_rfl) g196 <| nN K (tn 1) <| nE K (tn 3) ?_
    exact aro [.ren [0, 3, 4] [0]] ⟨(x134 ++ ([(x189, (x190, (x191, (x192, (x193, (x194, x195))))))])), (wr (x135 + (1 : Int))), rfl, h⟩
   refine VW.exit ?_
   exact arv [.ren [3] [0]] ⟨x134, rfl, h⟩
 rintro s ⟨x100, rfl, h⟩
 unfold F117_j0 at h
 refine nR K (tn 2) ?_
 cases h; exact VW.ret (rt [some 0])
def F92 (N : Nat) (a0 : Z52) : Option (Z52) :=
  andO (F117 N a0.2.1) fun y1 => andO (F117 N a0.2.2.1) fun y2 => some (a0.1, (y1, (y2, (a0.2.2.2.1, a0.2.2.2.2))))
theorem ok92 N a0 {r} (h : F92 N a0 = some r) : Con prog 92 [.agg (lv Y52 a0)] [.agg [.v (.int .i64) r.1, .own Y64 r.2.1 .dp, .own Y64 r.2.2.1 .dp, .v (.int .i64) r.2.2.2.1, .v (.int .i64) r.2.2.2.2]] := by
 refine ctr [.agg [.v (.int .i64), .own Y64 .dp, .own Y64 .dp, .v (.int .i64), .v (.int .i64)]] K func92 rfl fun w0 E0 ht => ?_
 unfold F92 at h
 show VW _ _ _ _ _ (retQ _ _ _ _) _
 refine nR K (tn 2) <| sq ?_
 obtain⟨y1,hy1,h⟩:=aS h
 obtain⟨y2,hy2,h⟩:=aS h
 refine dr K [(4, .cl [] (some 7) [.lf (.own Y64 y1 .dp)]), (7, .cl [] (some 10) [.lf (.own Y64 y2 .dp)])] [(4, 0), (7, 1)] [4, 7, 13] [2] [1, 2, 3] (tn 14) ⟨qC false [.t (.sl Y64)] [] [] (some 7) K (ok117 N _ hy1), qC false [.t (.sl Y64)] [] [] (some 10) K (ok117 N _ hy2), trivial⟩ ?_
 cases h; exact VW.ret (rt [some 1, some 2])
def F55_j0 (N : Nat) (y1 : (List Z75)) (x55 : Int) (x56 : (List Z52)) (x57 : Int) (x58 : Int) (x59 : Int) (x60 : Int) (x61 : Int) (x62 : Int) : Option (Z24) :=
  some (x55, (y1, (x56, (x57, (x58, (x59, (x60, (x61, x62))))))))
def F55_l0_b (N : Nat) (y1 : (List Z75)) (nx110 : Int → (List Z75) → (List Z52) → Int → Int → Int → Int → Int → Int → Int → (List Z52) → Int → Int → Int → Int → Int → Int → Int → Option (Z24)) (x86 : Int) (x87 : (List Z75)) (x88 : (List Z52)) (x89 : Int) (x90 : Int) (x91 : Int) (x92 : Int) (x93 : Int) (x94 : Int) (x95 : Int) (x96 : (List Z52)) (x97 : Int) (x98 : Int) (x99 : Int) (x100 : Int) (x101 : Int) (x102 : Int) (x103 : Int) : Option (Z24) :=
  cond (decide (x103 < (x88.length : Int))) (gd (InR x103 x88.length) (andO (F92 N (x88.getD x103.toNat (Ty.dflt Y52))) fun y115 => gd (x96.length + ([y115]).length ≤ lim Y52) (nx110 x86 x87 x88 x89 x90 x91 x92 x93 x94 x95 (x96 ++ ([y115])) x97 x98 x99 x100 x101 x102 (IntKind.i64.wrap (x103 + (1 : Int)))))) (F55_j0 N y1 x95 x96 x97 x98 x99 x100 x101 x102)
def F55_l0 (N : Nat) (y1 : (List Z75)) := loopF (F55_l0_b N y1) (fun _ _ _ _ _ _ _ _ _ _ _ _ _ _ _ _ _ _ => none)
theorem F55_l0_s N y1 {k} (hk : 0 < k) x86 x87 x88 x89 x90 x91 x92 x93 x94 x95 x96 x97 x98 x99 x100 x101 x102 x103 : F55_l0 N y1 k x86 x87 x88 x89 x90 x91 x92 x93 x94 x95 x96 x97 x98 x99 x100 x101 x102 x103 = F55_l0_b N y1 (F55_l0 N y1 (k - 1)) x86 x87 x88 x89 x90 x91 x92 x93 x94 x95 x96 x97 x98 x99 x100 x101 x102 x103 := by cases k;cases hk;rfl
def F55 (N : Nat) (a0 : Z24) : Option (Z24) :=
  andO (F91 N a0.2.1) fun y1 => F55_l0 N y1 N a0.1 a0.2.1 a0.2.2.1 a0.2.2.2.1 a0.2.2.2.2.1 a0.2.2.2.2.2.1 a0.2.2.2.2.2.2.1 a0.2.2.2.2.2.2.2.1 a0.2.2.2.2.2.2.2.2 a0.1 ([]) a0.2.2.2.1 a0.2.2.2.2.1 a0.2.2.2.2.2.1 a0.2.2.2.2.2.2.1 a0.2.2.2.2.2.2.2.1 a0.2.2.2.2.2.2.2.2 (0 : Int)
theorem ok55 N a0 {r} (h : F55 N a0 = some r) : Con prog 55 [.agg (lv Y24 a0)] [.agg [.v (.int .i64) r.1, .own Y75 r.2.1 .dp, .own Y52 r.2.2.1 .tp, .v (.int .i64) r.2.2.2.1, .v (.int .i64) r.2.2.2.2.1, .v (.int .i64) r.2.2.2.2.2.1, .v (.int .i64) r.2.2.2.2.2.2.1, .v (.int .i64) r.2.2.2.2.2.2.2.1, .v (.int .i64) r.2.2.2.2.2.2.2.2]] := by
 refine ctr [.agg [.v (.int .i64), .own Y75 .dp, .own Y52 .tp, .v (.int .i64), .v (.int .i64), .v (.int .i64), .v (.int .i64), .v (.int .i64), .v (.int .i64)]] K func55 rfl fun w0 E0 ht => ?_
 unfold F55 at h
 show VW _ _ _ _ _ (retQ _ _ _ _) _
 refine nR K (tn 2) <| nR K (tn 3) <| sq <| VW.region <| nG K 2 (tn 2) ?_
 obtain⟨y1,hy,h⟩:=aS h
 refine clc false [.t (.sl Y75)] [] (some 8) K (ok91 N _ hy) <| nN K (tn 2) <| nR K (tn 2) ?_
 refine VW.join (fun s => ∃ x55 x56 x57 x58 x59 x60 x61 x62, s = ⟨[(2, .lf (.ptr 0 0 0 0)), (3, .lf (.ptr 1 0 0 0))], [bx [zi (0 : Int), .nil, .nil, zi (0 : Int), zi (0 : Int), zi (0 : Int), zi (0 : Int), zi (0 : Int), zi (0 : Int)] 31, bx [zi x55, .hd 2 0 none, .hd 3 0 none, zi x57, zi x58, zi x59, zi x60, zi x61, zi x62] 31, ar 0 Y75 y1 .dp, ar 0 Y52 x56 .tp]⟩ ∧ F55_j0 N y1 x55 x56 x57 x58 x59 x60 x61 x62 = some r) ?_ ?_
 ·refine nR K (tn 1) <| VW.block <| lop (fun k s => ∃ x86 x87 x88 x89 x90 x91 x92 x93 x94 x95 x96 x97 x98 x99 x100 x101 x102 x103, s = ⟨[(1, .lf (.ptr 0 0 0 0)), (2, .lf (.ptr 1 0 0 0)), (3, .lf (.ptr 2 0 0 0)), (4, I x103)], [bx [zi x86, .v (.sl Y75) x87, .v (.sl Y52) x88, zi x89, zi x90, zi x91, zi x92, zi x93, zi x94] 31, bx [zi (0 : Int), .nil, .nil, zi (0 : Int), zi (0 : Int), zi (0 : Int), zi (0 : Int), zi (0 : Int), zi (0 : Int)] 31, bx [zi x95, .hd 3 0 none, .hd 4 0 none, zi x97, zi x98, zi x99, zi x100, zi x101, zi x102] 31, ar 0 Y75 y1 .dp, ar 0 Y52 x96 .tp]⟩ ∧ F55_l0 N y1 k x86 x87 x88 x89 x90 x91 x92 x93 x94 x95 x96 x97 x98 x99 x100 x101 x102 x103 = some r) N [.nil 2 2 Y52 .tp, .ren [1, 2, 3, 4] [0, 1, 2, 3, 4]] ⟨a0.1, a0.2.1, a0.2.2.1, a0.2.2.2.1, a0.2.2.2.2.1, a0.2.2.2.2.2.1, a0.2.2.2.2.2.2.1, a0.2.2.2.2.2.2.2.1, a0.2.2.2.2.2.2.2.2, a0.1, [], a0.2.2.2.1, a0.2.2.2.2.1, a0.2.2.2.2.2.1, a0.2.2.2.2.2.2.1, a0.2.2.2.2.2.2.2.1, a0.2.2.2.2.2.2.2.2, (0 : Int), rfl, h⟩ ?_
  rintro k110 s ⟨x86, x87, x88, x89, x90, x91, x92, x93, x94, x95, x96, x97, x98, x99, x100, x101, x102, x103, rfl, h⟩
  cases k110 with
  | zero => cases show none = some r from h
  | succ k110 =>
   replace h : F55_l0_b N y1 (F55_l0 N y1 k110) x86 x87 x88 x89 x90 x91 x92 x93 x94 x95 x96 x97 x98 x99 x100 x101 x102 x103 = some r := h
   unfold F55_l0_b at h
   refine sq <| nR K (tn 5) ?_
   refine cnd h ?_ ?_<;>intro h
   ·refine VW.skip <| sq <| VW.block ?_
    obtain⟨g114,h⟩:=gS h
    obtain⟨y115,hy115,h⟩:=aS h
    obtain⟨g116,h⟩:=gS h
    refine dr K [(7, .cl [] (some 25) [.agg [.v (.int .i64) y115.1, .own Y64 y115.2.1 .dp, .own Y64 y115.2.2.1 .dp, .v (.int .i64) y115.2.2.2.1, .v (.int .i64) y115.2.2.2.2]]), (8, .ev [5, 6])] [(7, 0), (8, 1)] [7, 8, 9, 11] [1, 2, 3, 4] [0, 1, 2, 3, 4] (pu 5 (an g114 (pu 3 (an g116 (tn 2))))) ⟨qC false [.t Y52] [] [] (some 25) K (ok92 N _ hy115), qE [5, 6] K trivial, trivial⟩ <| nE K (tn 3) ?_
    exact aro [.ren [1, 2, 3, 4] [0, 1, 2, 3, 4]] ⟨x86, x87, x88, x89, x90, x91, x92, x93, x94, x95, (x96 ++ ([y115])), x97, x98, x99, x100, x101, x102, (wr (x103 + (1 : Int))), rfl, h⟩
   refine VW.exit ?_
   exact arv [.ren [2, 3] [1, 2, 3, 4]] ⟨x95, x96, x97, x98, x99, x100, x101, x102, rfl, h⟩
 rintro s ⟨x55, x56, x57, x58, x59, x60, x61, x62, rfl, h⟩
 unfold F55_j0 at h
 refine nR K (tn 2) ?_
 cases h; exact VW.ret (rt [some 2, some 3])
def F93 (N : Nat) (a0 : (List Z75)) : Option ((List Z75)) :=
  gd (a0.length ≤ lim Y75) (some a0)
theorem ok93 N a0 {r} (h : F93 N a0 = some r) : Con prog 93 [Vv (.sl Y75) a0] [.lf (.own Y75 r .dp)] := by
 refine ctr [.lf (.own Y75 .dp)] K func93 rfl fun w0 E0 ht => ?_
 unfold F93 at h
 show VW _ _ _ _ _ (retQ _ _ _ _) _
 refine nR K (tn 1) <| sq <| sq <| VW.region <| nG K 1 (tn 1) ?_
 refine VO.isNil (d := 4) (e := Y75) (xs := a0) K rfl rfl rfl rfl (by kernel_rfl) (by kernel_rfl) (fun hx => ?_) ?_
 ·replace h : some ([]) = some r := by
   subst hx; first | exact h | exact (gd_some h).2
  refine nN K (tn 0) ?_
  refine VW.cond (b := true) (by kernel_rfl) (fun _ => ?_) (fun h' => nomatch h')
  refine nR K (tn 1) ?_
  cases h; exact VW.ret (rt [none])
 refine nN K (tn 0) ?_
 refine VW.cond (b := false) (by kernel_rfl) (fun h' => nomatch h') (fun _ => ?_)
 refine VW.skip ?_
 obtain⟨g1,h⟩:=gS h
 refine nR K (pu 2 (an g1 (tn 1))) ?_
 cases h; exact VW.ret (rt [some 0])
def F118 (N : Nat) (a0 : (List Int)) : Option ((List Int)) :=
  gd (a0.length ≤ lim (.int .i64)) (some a0)
theorem ok118 N a0 {r} (h : F118 N a0 = some r) : Con prog 118 [Vv (.sl (.int .i64)) a0] [.lf (.own (.int .i64) r .dp)] := by
 refine ctr [.lf (.own (.int .i64) .dp)] K func118 rfl fun w0 E0 ht => ?_
 unfold F118 at h
 show VW _ _ _ _ _ (retQ _ _ _ _) _
 refine nR K (tn 1) <| sq <| sq <| VW.region <| nG K 1 (tn 1) ?_
 refine VO.isNil (d := 4) (e := (.int .i64)) (xs := a0) K rfl rfl rfl rfl (by kernel_rfl) (by kernel_rfl) (fun hx => ?_) ?_
 ·replace h : some ([]) = some r := by
   subst hx; first | exact h | exact (gd_some h).2
  refine nN K (tn 0) ?_
  refine VW.cond (b := true) (by kernel_rfl) (fun _ => ?_) (fun h' => nomatch h')
  refine nR K (tn 1) ?_
  cases h; exact VW.ret (rt [none])
 refine nN K (tn 0) ?_
 refine VW.cond (b := false) (by kernel_rfl) (fun h' => nomatch h') (fun _ => ?_)
 refine VW.skip ?_
 obtain⟨g1,h⟩:=gS h
 refine nR K (pu 2 (an g1 (tn 1))) ?_
 cases h; exact VW.ret (rt [some 0])
def F94_j0 (N : Nat) (x24 : (List Z64)) : Option ((List Z64)) :=
  some x24
def F94_l0_b (N : Nat) (a0 : (List Z64)) (nx42 : (List Z64) → Int → Int → Option ((List Z64))) (x33 : (List Z64)) (x34 : Int) (x35 : Int) : Option ((List Z64)) :=
  cond (decide (x35 < x34)) (gd (InR x35 a0.length) (andO (F118 N ((a0.getD x35.toNat (Ty.dflt Y64)).2.2.2.2.2.2)) fun y47 => gd (x33.length + ([((a0.getD x35.toNat (Ty.dflt Y64)).1, ((a0.getD x35.toNat (Ty.dflt Y64)).2.1, ((a0.getD x35.toNat (Ty.dflt Y64)).2.2.1, ((a0.getD x35.toNat (Ty.dflt Y64)).2.2.2.1, ((a0.getD x35.toNat (Ty.dflt Y64)).2.2.2.2.1, ((a0.getD x35.toNat (Ty.dflt Y64)).2.2.2.2.2.1, y47))))))]).length ≤ lim Y64) (nx42 (x33 ++ ([((a0.getD x35.toNat (Ty.dflt Y64)).1, ((a0.getD x35.toNat (Ty.dflt Y64)).2.1, ((a0.getD x35.toNat (Ty.dflt Y64)).2.2.1, ((a0.getD x35.toNat (Ty.dflt Y64)).2.2.2.1, ((a0.getD x35.toNat (Ty.dflt Y64)).2.2.2.2.1, ((a0.getD x35.toNat (Ty.dflt Y64)).2.2.2.2.2.1, y47))))))])) x34 (IntKind.i64.wrap (x35 + (1 : Int)))))) (F94_j0 N x33)
def F94_l0 (N : Nat) (a0 : (List Z64)) := loopF (F94_l0_b N a0) (fun _ _ _ => none)
theorem F94_l0_s N a0 {k} (hk : 0 < k) x33 x34 x35 : F94_l0 N a0 k x33 x34 x35 = F94_l0_b N a0 (F94_l0 N a0 (k - 1)) x33 x34 x35 := by cases k;cases hk;rfl
def F94 (N : Nat) (a0 : (List Z64)) : Option ((List Z64)) :=
  F94_l0 N a0 N ([]) (a0.length : Int) (0 : Int)
theorem ok94 N a0 {r} (h : F94 N a0 = some r) : Con prog 94 [Vv (.sl Y64) a0] [.lf (.own Y64 r .dp)] := by
 refine ctr [.lf (.own Y64 .dp)] K func94 rfl fun w0 E0 ht => ?_
 unfold F94 at h
 show VW _ _ _ _ _ (retQ _ _ _ _) _
 refine nR K (tn 1) <| nR K (tn 1) ?_
 refine VW.join (fun s => ∃ x24, s = ⟨[(3, hh 0)], [ar 0 Y64 x24 .dp]⟩ ∧ F94_j0 N x24 = some r) ?_ ?_
 ·refine nR K (tn 3) <| VW.block <| lop (fun k s => ∃ x33 x34 x35, s = ⟨[(3, hh 0), (6, Vv (.sl Y64) a0), (7, I x34), (8, I x35)], [ar 0 Y64 x33 .dp]⟩ ∧ F94_l0 N a0 k x33 x34 x35 = some r) N [.nilS 3 Y64 .dp, .ren [3, 6, 7, 8] [0]] ⟨[], (a0.length : Int), (0 : Int), rfl, h⟩ ?_
  rintro k42 s ⟨x33, x34, x35, rfl, h⟩
  cases k42 with
  | zero => cases show none = some r from h
  | succ k42 =>
   replace h : F94_l0_b N a0 (F94_l0 N a0 k42) x33 x34 x35 = some r := h
   unfold F94_l0_b at h
   refine nR K (tn 1) <| sq ?_
   refine cnd h ?_ ?_<;>intro h
   ·refine VW.skip <| sq <| VW.block ?_
    obtain⟨g46,h⟩:=gS h
    refine nR K (an g46 (tn 3)) <| sq <| VW.region <| nG K 2 (tn 2) ?_
    obtain⟨y47,hy,h⟩:=aS h
    refine clc false [.t (.sl (.int .i64))] [] (some 14) K (ok118 N _ hy) <| nN K (tn 2) <| VW.region <| nG K 2 (tn 2) <| VO.litA (d := 18) (v := hh 3) (H' := [ar 0 Y64 x33 .dp, bx [zi ((a0.getD x35.toNat D64).1), zs ((a0.getD x35.toNat D64).2.1), zi ((a0.getD x35.toNat D64).2.2.1), zi ((a0.getD x35.toNat D64).2.2.2.1), zi ((a0.getD x35.toNat D64).2.2.2.2.1), zb ((a0.getD x35.toNat D64).2.2.2.2.2.1), .hd 2 0 none] 66, none, ar 0 Y64 ([((a0.getD x35.toNat D64).1, ((a0.getD x35.toNat D64).2.1, ((a0.getD x35.toNat D64).2.2.1, ((a0.getD x35.toNat D64).2.2.2.1, ((a0.getD x35.toNat D64).2.2.2.2.1, ((a0.getD x35.toNat D64).2.2.2.2.2.1, y47))))))]) .dp]) K (by kernel_rfl) ?_
    obtain⟨g48,h⟩:=gS h
    refine VO.appM (d := 19) (φ := x33.length + ([((a0.getD x35.toNat D64).1, ((a0.getD x35.toNat D64).2.1, ((a0.getD x35.toNat D64).2.2.1, ((a0.getD x35.toNat D64).2.2.2.1, ((a0.getD x35.toNat D64).2.2.2.2.1, ((a0.getD x35.toNat D64).2.2.2.2.2.1, y47))))))]).length ≤ lim Y64) (v := .lf (.hd 0 1 none)) (H' := [ar 1 Y64 (x33 ++ ([((a0.getD x35.toNat D64).1, ((a0.getD x35.toNat D64).2.1, ((a0.getD x35.toNat D64).2.2.1, ((a0.getD x35.toNat D64).2.2.2.1, ((a0.getD x35.toNat D64).2.2.2.2.1, ((a0.getD x35.toNat D64).2.2.2.2.2.1, y47))))))])) .dp, bx [zi ((a0.getD x35.toNat D64).1), zs ((a0.getD x35.toNat D64).2.1), zi ((a0.getD x35.toNat D64).2.2.1), zi ((a0.getD x35.toNat D64).2.2.2.1), zi ((a0.getD x35.toNat D64).2.2.2.2.1), zb ((a0.getD x35.toNat D64).2.2.2.2.2.1), .hd 2 0 none] 66, none, none]) K (by kernel_rfl) g48 ?_
    refine nN K (tn 1) <| nE K (tn 2) ?_
    exact aro [.ren [3, 6, 7, 8] [0]] ⟨(x33 ++ ([((a0.getD x35.toNat D64).1, ((a0.getD x35.toNat D64).2.1, ((a0.getD x35.toNat D64).2.2.1, ((a0.getD x35.toNat D64).2.2.2.1, ((a0.getD x35.toNat D64).2.2.2.2.1, ((a0.getD x35.toNat D64).2.2.2.2.2.1, y47))))))])), x34, (wr (x35 + (1 : Int))), rfl, h⟩
   refine VW.exit ?_
   exact arv [.ren [3] [0]] ⟨x33, rfl, h⟩
 rintro s ⟨x24, rfl, h⟩
 unfold F94_j0 at h
 refine nR K (tn 2) ?_
 cases h; exact VW.ret (rt [some 0])
def F56_j0 (N : Nat) (y1 : (List Z75)) (x49 : Int) (x50 : (List Z52)) (x51 : Int) (x52 : Int) (x53 : Int) (x54 : Int) (x55 : Int) (x56 : Int) (x57 : (List Z52)) : Option (Z24) :=
  some (x49, (y1, (x57, (x51, (x52, (x53, (x54, (x55, x56))))))))
def F56_l0_b (N : Nat) (y1 : (List Z75)) (nx97 : Int → (List Z52) → Int → Int → Int → Int → Int → Int → (List Z52) → (List Z52) → Int → Int → Option (Z24)) (x77 : Int) (x78 : (List Z52)) (x79 : Int) (x80 : Int) (x81 : Int) (x82 : Int) (x83 : Int) (x84 : Int) (x85 : (List Z52)) (x86 : (List Z52)) (x87 : Int) (x88 : Int) : Option (Z24) :=
  cond (decide (x88 < x87)) (gd (InR x88 x86.length) (andO (F94 N ((x86.getD x88.toNat (Ty.dflt Y52)).2.1)) fun y103 => andO (F94 N ((x86.getD x88.toNat (Ty.dflt Y52)).2.2.1)) fun y104 => gd (x85.length + ([((x86.getD x88.toNat (Ty.dflt Y52)).1, (y103, (y104, ((x86.getD x88.toNat (Ty.dflt Y52)).2.2.2.1, (x86.getD x88.toNat (Ty.dflt Y52)).2.2.2.2))))]).length ≤ lim Y52) (nx97 x77 x78 x79 x80 x81 x82 x83 x84 (x85 ++ ([((x86.getD x88.toNat (Ty.dflt Y52)).1, (y103, (y104, ((x86.getD x88.toNat (Ty.dflt Y52)).2.2.2.1, (x86.getD x88.toNat (Ty.dflt Y52)).2.2.2.2))))])) x86 x87 (IntKind.i64.wrap (x88 + (1 : Int)))))) (F56_j0 N y1 x77 x78 x79 x80 x81 x82 x83 x84 x85)
def F56_l0 (N : Nat) (y1 : (List Z75)) := loopF (F56_l0_b N y1) (fun _ _ _ _ _ _ _ _ _ _ _ _ => none)
theorem F56_l0_s N y1 {k} (hk : 0 < k) x77 x78 x79 x80 x81 x82 x83 x84 x85 x86 x87 x88 : F56_l0 N y1 k x77 x78 x79 x80 x81 x82 x83 x84 x85 x86 x87 x88 = F56_l0_b N y1 (F56_l0 N y1 (k - 1)) x77 x78 x79 x80 x81 x82 x83 x84 x85 x86 x87 x88 := by cases k;cases hk;rfl
def F56 (N : Nat) (a0 : Z24) : Option (Z24) :=
  andO (F93 N a0.2.1) fun y1 => F56_l0 N y1 N a0.1 a0.2.2.1 a0.2.2.2.1 a0.2.2.2.2.1 a0.2.2.2.2.2.1 a0.2.2.2.2.2.2.1 a0.2.2.2.2.2.2.2.1 a0.2.2.2.2.2.2.2.2 ([]) a0.2.2.1 (a0.2.2.1.length : Int) (0 : Int)
theorem ok56 N a0 {r} (h : F56 N a0 = some r) : Con prog 56 [.agg (lv Y24 a0)] [.agg [.v (.int .i64) r.1, .own Y75 r.2.1 .dp, .own Y52 r.2.2.1 .dp, .v (.int .i64) r.2.2.2.1, .v (.int .i64) r.2.2.2.2.1, .v (.int .i64) r.2.2.2.2.2.1, .v (.int .i64) r.2.2.2.2.2.2.1, .v (.int .i64) r.2.2.2.2.2.2.2.1, .v (.int .i64) r.2.2.2.2.2.2.2.2]] := by
 refine ctr [.agg [.v (.int .i64), .own Y75 .dp, .own Y52 .dp, .v (.int .i64), .v (.int .i64), .v (.int .i64), .v (.int .i64), .v (.int .i64), .v (.int .i64)]] K func56 rfl fun w0 E0 ht => ?_
 unfold F56 at h
 show VW _ _ _ _ _ (retQ _ _ _ _) _
 refine nR K (tn 2) <| sq <| VW.region <| nG K 2 (tn 2) ?_
 obtain⟨y1,hy,h⟩:=aS h
 refine clc false [.t (.sl Y75)] [] (some 8) K (ok93 N _ hy) <| nN K (tn 2) <| nR K (tn 1) ?_
 refine VW.join (fun s => ∃ x49 x50 x51 x52 x53 x54 x55 x56 x57, s = ⟨[(1, .lf (.ptr 0 0 0 0)), (2, .lf (.ptr 2 0 0 0)), (3, hh 3)], [bx [zi x49, .hd 1 0 none, .v (.sl Y52) x50, zi x51, zi x52, zi x53, zi x54, zi x55, zi x56] 31, ar 0 Y75 y1 .dp, bx [zi (0 : Int), .nil, .nil, zi (0 : Int), zi (0 : Int), zi (0 : Int), zi (0 : Int), zi (0 : Int), zi (0 : Int)] 31, ar 0 Y52 x57 .dp]⟩ ∧ F56_j0 N y1 x49 x50 x51 x52 x53 x54 x55 x56 x57 = some r) ?_ ?_
 ·refine nR K (tn 4) <| VW.block <| lop (fun k s => ∃ x77 x78 x79 x80 x81 x82 x83 x84 x85 x86 x87 x88, s = ⟨[(1, .lf (.ptr 0 0 0 0)), (2, .lf (.ptr 2 0 0 0)), (3, hh 3), (11, Vv (.sl Y52) x86), (12, I x87), (13, I x88)], [bx [zi x77, .hd 1 0 none, .v (.sl Y52) x78, zi x79, zi x80, zi x81, zi x82, zi x83, zi x84] 31, ar 0 Y75 y1 .dp, bx [zi (0 : Int), .nil, .nil, zi (0 : Int), zi (0 : Int), zi (0 : Int), zi (0 : Int), zi (0 : Int), zi (0 : Int)] 31, ar 0 Y52 x85 .dp]⟩ ∧ F56_l0 N y1 k x77 x78 x79 x80 x81 x82 x83 x84 x85 x86 x87 x88 = some r) N [.nilS 3 Y52 .dp, .ren [1, 2, 3, 11, 12, 13] [0, 2, 1, 3]] ⟨a0.1, a0.2.2.1, a0.2.2.2.1, a0.2.2.2.2.1, a0.2.2.2.2.2.1, a0.2.2.2.2.2.2.1, a0.2.2.2.2.2.2.2.1, a0.2.2.2.2.2.2.2.2, [], a0.2.2.1, (a0.2.2.1.length : Int), (0 : Int), rfl, h⟩ ?_
  rintro k97 s ⟨x77, x78, x79, x80, x81, x82, x83, x84, x85, x86, x87, x88, rfl, h⟩
  cases k97 with
  | zero => cases show none = some r from h
  | succ k97 =>
   replace h : F56_l0_b N y1 (F56_l0 N y1 k97) x77 x78 x79 x80 x81 x82 x83 x84 x85 x86 x87 x88 = some r := h
   unfold F56_l0_b at h
   refine nR K (tn 1) <| sq ?_
   refine cnd h ?_ ?_<;>intro h
   ·refine VW.skip <| sq <| VW.block ?_
    obtain⟨g102,h⟩:=gS h
    refine nR K (an g102 (tn 3)) <| sq <| VW.region <| nG K 2 (tn 2) ?_
    obtain⟨y103,hy,h⟩:=aS h
    refine clc false [.t (.sl Y64)] [] (some 19) K (ok94 N _ hy) <| nN K (tn 2) <| sq <| VW.region <| nG K 2 (tn 2) ?_
    obtain⟨y104,hy,h⟩:=aS h
    refine clc false [.t (.sl Y64)] [] (some 23) K (ok94 N _ hy) <| nN K (tn 2) <| VW.region <| nG K 2 (tn 2) <| VO.litA (d := 27) (v := hh 7) (H' := [bx [zi x77, .hd 1 0 none, .v (.sl Y52) x78, zi x79, zi x80, zi x81, zi x82, zi x83, zi x84] 31, ar 0 Y75 y1 .dp, bx [zi (0 : Int), .nil, .nil, zi (0 : Int), zi (0 : Int), zi (0 : Int), zi (0 : Int), zi (0 : Int), zi (0 : Int)] 31, ar 0 Y52 x85 .dp, bx [zi ((x86.getD x88.toNat D52).1), .hd 5 0 none, .hd 6 0 none, zi ((x86.getD x88.toNat D52).2.2.2.1), zi ((x86.getD x88.toNat D52).2.2.2.2)] 53, none, none, ar 0 Y52 ([((x86.getD x88.toNat D52).1, (y103, (y104, ((x86.getD x88.toNat D52).2.2.2.1, (x86.getD x88.toNat D52).2.2.2.2))))]) .dp]) K (by kernel_rfl) ?_
    obtain⟨g105,h⟩:=gS h
    refine VO.appM (d := 28) (φ := x85.length + ([((x86.getD x88.toNat D52).1, (y103, (y104, ((x86.getD x88.toNat D52).2.2.2.1, (x86.getD x88.toNat D52).2.2.2.2))))]).length ≤ lim Y52) (v := .lf (.hd 3 1 none)) (H' := [bx [zi x77, .hd 1 0 none, .v (.sl Y52) x78, zi x79, zi x80, zi x81, zi x82, zi x83, zi x84] 31, ar 0 Y75 y1 .dp, bx [zi (0 : Int), .nil, .nil, zi (0 : Int), zi (0 : Int), zi (0 : Int), zi (0 : Int), zi (0 : Int), zi (0 : Int)] 31, ar 1 Y52 (x85 ++ ([((x86.getD x88.toNat D52).1, (y103, (y104, ((x86.getD x88.toNat D52).2.2.2.1, (x86.getD x88.toNat D52).2.2.2.2))))])) .dp, bx [zi ((x86.getD x88.toNat D52).1), .hd 5 0 none, .hd 6 0 none, zi ((x86.getD x88.toNat D52).2.2.2.1), zi ((x86.getD x88.toNat D52).2.2.2.2)] 53, none, none, none]) K (by kernel_rfl) g105 ?_
    refine nN K (tn 1) <| nE K (tn 2) ?_
    exact aro [.ren [1, 2, 3, 11, 12, 13] [0, 1, 2, 3]] ⟨x77, x78, x79, x80, x81, x82, x83, x84, (x85 ++ ([((x86.getD x88.toNat D52).1, (y103, (y104, ((x86.getD x88.toNat D52).2.2.2.1, (x86.getD x88.toNat D52).2.2.2.2))))])), x86, x87, (wr (x88 + (1 : Int))), rfl, h⟩
   refine VW.exit ?_
   exact arv [.ren [1, 2, 3] [0, 1, 2, 3]] ⟨x77, x78, x79, x80, x81, x82, x83, x84, x85, rfl, h⟩
 rintro s ⟨x49, x50, x51, x52, x53, x54, x55, x56, x57, rfl, h⟩
 unfold F56_j0 at h
 refine nR K (tn 3) <| nR K (tn 2) ?_
 cases h; exact VW.ret (rt [some 1, some 3])
def F95_j0 (N : Nat) (x7 : ByteArray) : Option (ByteArray) :=
  gd ((⟨#[109]⟩ : ByteArray).size + x7.size ≤ 9223372036854775807) (some ((⟨#[109]⟩ : ByteArray) ++ x7))
def F95_l0_b (N : Nat) (nx14 : Int → ByteArray → Option (ByteArray)) (x11 : Int) (x12 : ByteArray) : Option (ByteArray) :=
  cond (decide (x11 > (0 : Int))) (gd ((strOfNums ([(IntKind.u8.wrap (IntKind.i64.wrap ((48 : Int) + (Int.tmod x11 (10 : Int)))))])).size + x12.size ≤ 9223372036854775807) (nx14 (IntKind.i64.wrap (Int.tdiv x11 (10 : Int))) ((strOfNums ([(IntKind.u8.wrap (IntKind.i64.wrap ((48 : Int) + (Int.tmod x11 (10 : Int)))))])) ++ x12))) (F95_j0 N x12)
def F95_l0 (N : Nat) := loopF (F95_l0_b N) (fun _ _ => none)
theorem F95_l0_s N {k} (hk : 0 < k) x11 x12 : F95_l0 N k x11 x12 = F95_l0_b N (F95_l0 N (k - 1)) x11 x12 := by cases k;cases hk;rfl
def F95 (N : Nat) (a0 : Int) : Option (ByteArray) :=
  cond (decide (a0 ≤ (0 : Int))) (some (⟨#[109, 48]⟩ : ByteArray)) (F95_l0 N N a0 ByteArray.empty)
theorem ok95 N a0 {r} (h : F95 N a0 = some r) : Con prog 95 [I a0] [.lf (.v .str r)] := by
 refine ctr [.lf (.v .str)] K func95 rfl fun w0 E0 ht => ?_
 unfold F95 at h
 show VW _ _ _ _ _ (retQ _ _ _ _) _
 refine nR K (tn 1) <| sq <| nR K (tn 2) ?_
 refine cnd h ?_ ?_<;>intro h
 ·refine nR K (tn 1) ?_
  cases h; exact VW.ret (rt [])
 refine VW.skip <| nR K (tn 1) ?_
 refine VW.join (fun s => ∃ x7, s = ⟨[(3, S x7)], []⟩ ∧ F95_j0 N x7 = some r) ?_ ?_
 ·refine VW.block <| lop (fun k s => ∃ x11 x12, s = ⟨[(0, I x11), (3, S x12)], []⟩ ∧ F95_l0 N k x11 x12 = some r) N [.ren [0, 3] []] ⟨a0, ByteArray.empty, rfl, h⟩ ?_
  rintro k14 s ⟨x11, x12, rfl, h⟩
  cases k14 with
  | zero => cases show none = some r from h
  | succ k14 =>
   replace h : F95_l0_b N (F95_l0 N k14) x11 x12 = some r := h
   unfold F95_l0_b at h
   refine sq <| nR K (tn 2) ?_
   refine cnd h ?_ ?_<;>intro h
   ·refine VW.skip <| VW.block ?_
    obtain⟨g15,h⟩:=gS h
    refine nR K (pu 1 (an (show ((10 : Int) ≠ 0) from by decide) (pu 5 (an g15 (tn 1))))) <| nE K (pu 1 (an (show ((10 : Int) ≠ 0) from by decide) (tn 1))) ?_
    exact aro [.ren [0, 3] []] ⟨(wr (Int.tdiv x11 (10 : Int))), ((strOfNums ([(IntKind.u8.wrap (wr ((48 : Int) + (Int.tmod x11 (10 : Int)))))])) ++ x12), rfl, h⟩
   refine VW.exit ?_
   exact arv [.ren [3] []] ⟨x12, rfl, h⟩
 rintro s ⟨x7, rfl, h⟩
 unfold F95_j0 at h
 obtain⟨g8,h⟩:=gS h
 refine nR K (pu 1 (an g8 (tn 1))) ?_
 cases h; exact VW.ret (rt [])
def F57_j0 (N : Nat) (x35 : Int) (x36 : (List Z75)) : Option ((List Z75) × Int) :=
  some (x36, x35)
def F57_l0_b (N : Nat) (nx61 : (List Z75) → Int → Int → Option ((List Z75) × Int)) (x48 : (List Z75)) (x49 : Int) (x50 : Int) : Option ((List Z75) × Int) :=
  cond (decide (x50 < (x48.length : Int))) (andO (F95 N x49) fun y67 => gd (InR x50 x48.length) (gd (x50.toNat < x48.length) (gd (InR x50 (x48.set x50.toNat (y67, (x48.getD x50.toNat (Ty.dflt Y75)).2)).length) (gd (x50.toNat < (x48.set x50.toNat (y67, (x48.getD x50.toNat (Ty.dflt Y75)).2)).length) (nx61 ((x48.set x50.toNat (y67, (x48.getD x50.toNat (Ty.dflt Y75)).2)).set x50.toNat (((x48.set x50.toNat (y67, (x48.getD x50.toNat (Ty.dflt Y75)).2)).getD x50.toNat (Ty.dflt Y75)).1, (IntKind.i64.wrap (x49 + (1 : Int))))) (IntKind.i64.wrap ((IntKind.i64.wrap (x49 + (1 : Int))) + (1 : Int))) (IntKind.i64.wrap (x50 + (1 : Int)))))))) (F57_j0 N x49 x48)
def F57_l0 (N : Nat) := loopF (F57_l0_b N) (fun _ _ _ => none)
theorem F57_l0_s N {k} (hk : 0 < k) x48 x49 x50 : F57_l0 N k x48 x49 x50 = F57_l0_b N (F57_l0 N (k - 1)) x48 x49 x50 := by cases k;cases hk;rfl
def F57 (N : Nat) (a0 : (List Z75)) (a1 : Int) : Option ((List Z75) × Int) :=
  F57_l0 N N a0 a1 (0 : Int)
theorem ok57 N a0 a1 {r} (h : F57 N a0 a1 = some r) : ConM prog 57 [ar 0 Y75 a0 .dp] [hh 0, I a1] [.lf (.v (.int .i64) r.2)] [ar 0 Y75 r.1 .dp] := by
 refine ⟨enters_of func57 rfl (by decide), HM.intro [.lf (.v (.int .i64))] K func57 rfl (Nat.le_of_ble_eq_true rfl) (Nat.le_of_ble_eq_true rfl) fun w0 E0 ht => ?_⟩
 unfold F57 at h
 show VW _ _ _ _ _ (retM _ _ _ _ _) _
 refine nR K (tn 1) ?_
 refine VW.join (fun s => ∃ x35 x36, s = ⟨[(1, I x35), (65536, hh 0)], [ar 0 Y75 x36 .dp]⟩ ∧ F57_j0 N x35 x36 = some r) ?_ ?_
 ·refine nR K (tn 1) <| VW.block <| lop (fun k s => ∃ x48 x49 x50, s = ⟨[(0, hh 0), (1, I x49), (5, I x50), (65536, hh 0)], [ar 0 Y75 x48 .dp]⟩ ∧ F57_l0 N k x48 x49 x50 = some r) N [.ren [0, 1, 5, 65536] [0]] ⟨a0, a1, (0 : Int), rfl, h⟩ ?_
  rintro k61 s ⟨x48, x49, x50, rfl, h⟩
  cases k61 with
  | zero => cases show none = some r from h
  | succ k61 =>
   replace h : F57_l0_b N (F57_l0 N k61) x48 x49 x50 = some r := h
   unfold F57_l0_b at h
   refine sq <| nR K (tn 4) ?_
   refine cnd h ?_ ?_<;>intro h
   ·refine VW.skip <| sq <| VW.block <| sq <| VW.region <| nG K 3 (tn 3) ?_
    obtain⟨y67,hy,h⟩:=aS h
    refine clc false [.t (.int .i64)] [] (some 15) K (ok95 N _ hy) ?_
    obtain⟨g68,h⟩:=gS h
    obtain⟨g69,h⟩:=gS h
    refine nN K (an g68 (pu 1 (an g69 (tn 0)))) <| nR K (tn 3) ?_
    obtain⟨g70,h⟩:=gS h
    obtain⟨g71,h⟩:=gS h
    refine nR K (pu 3 (an g70 (pu 1 (an g71 (tn 0))))) <| nE K (tn 3) <| nE K (tn 3) ?_
    exact aro [.ren [0, 1, 5, 65536] [0]] ⟨((x48.set x50.toNat (y67, (x48.getD x50.toNat D75).2)).set x50.toNat (((x48.set x50.toNat (y67, (x48.getD x50.toNat D75).2)).getD x50.toNat D75).1, (wr (x49 + (1 : Int))))), (wr ((wr (x49 + (1 : Int))) + (1 : Int))), (wr (x50 + (1 : Int))), rfl, h⟩
   refine VW.exit ?_
   exact arv [.ren [1, 65536] [0]] ⟨x49, x48, rfl, h⟩
 rintro s ⟨x35, x36, rfl, h⟩
 unfold F57_j0 at h
 refine nR K (tn 2) ?_
 replace h := Option.some.inj h
 subst h
 refine VW.ghl [.ren [4, 65536] [0]] (VW.ret ?_)
 exact ⟨[], by kernel_rfl, by kernel_rfl, by kernel_rfl⟩
def F119_j0 (N : Nat) (x17 : Int) (x18 : (List Int)) : Option ((List Int) × Int) :=
  some (x18, x17)
def F119_l0_b (N : Nat) (nx31 : (List Int) → Int → Int → Option ((List Int) × Int)) (x24 : (List Int)) (x25 : Int) (x26 : Int) : Option ((List Int) × Int) :=
  cond (decide (x26 < (x24.length : Int))) (gd (InR x26 x24.length) (gd (x26.toNat < x24.length) (nx31 (x24.set x26.toNat x25) (IntKind.i64.wrap (x25 + (1 : Int))) (IntKind.i64.wrap (x26 + (1 : Int)))))) (F119_j0 N x25 x24)
def F119_l0 (N : Nat) := loopF (F119_l0_b N) (fun _ _ _ => none)
theorem F119_l0_s N {k} (hk : 0 < k) x24 x25 x26 : F119_l0 N k x24 x25 x26 = F119_l0_b N (F119_l0 N (k - 1)) x24 x25 x26 := by cases k;cases hk;rfl
def F119 (N : Nat) (a0 : (List Int)) (a1 : Int) : Option ((List Int) × Int) :=
  F119_l0 N N a0 a1 (0 : Int)
theorem ok119 N a0 a1 {r} (h : F119 N a0 a1 = some r) : ConM prog 119 [ar 0 (.int .i64) a0 .dp] [hh 0, I a1] [.lf (.v (.int .i64) r.2)] [ar 0 (.int .i64) r.1 .dp] := by
 refine ⟨enters_of func119 rfl (by decide), HM.intro [.lf (.v (.int .i64))] K func119 rfl (Nat.le_of_ble_eq_true rfl) (Nat.le_of_ble_eq_true rfl) fun w0 E0 ht => ?_⟩
 unfold F119 at h
 show VW _ _ _ _ _ (retM _ _ _ _ _) _
 refine nR K (tn 1) ?_
 refine VW.join (fun s => ∃ x17 x18, s = ⟨[(1, I x17), (65536, hh 0)], [ar 0 (.int .i64) x18 .dp]⟩ ∧ F119_j0 N x17 x18 = some r) ?_ ?_
 ·refine nR K (tn 1) <| VW.block <| lop (fun k s => ∃ x24 x25 x26, s = ⟨[(0, hh 0), (1, I x25), (5, I x26), (65536, hh 0)], [ar 0 (.int .i64) x24 .dp]⟩ ∧ F119_l0 N k x24 x25 x26 = some r) N [.ren [0, 1, 5, 65536] [0]] ⟨a0, a1, (0 : Int), rfl, h⟩ ?_
  rintro k31 s ⟨x24, x25, x26, rfl, h⟩
  cases k31 with
  | zero => cases show none = some r from h
  | succ k31 =>
   replace h : F119_l0_b N (F119_l0 N k31) x24 x25 x26 = some r := h
   unfold F119_l0_b at h
   refine sq <| nR K (tn 4) ?_
   refine cnd h ?_ ?_<;>intro h
   ·refine VW.skip <| sq <| VW.block ?_
    obtain⟨g34,h⟩:=gS h
    obtain⟨g35,h⟩:=gS h
    refine nR K (pu 3 (an g34 (an g35 (tn 0)))) <| nE K (tn 3) <| nE K (tn 3) ?_
    exact aro [.ren [0, 1, 5, 65536] [0]] ⟨(x24.set x26.toNat x25), (wr (x25 + (1 : Int))), (wr (x26 + (1 : Int))), rfl, h⟩
   refine VW.exit ?_
   exact arv [.ren [1, 65536] [0]] ⟨x25, x24, rfl, h⟩
 rintro s ⟨x17, x18, rfl, h⟩
 unfold F119_j0 at h
 refine nR K (tn 2) ?_
 replace h := Option.some.inj h
 subst h
 refine VW.ghl [.ren [4, 65536] [0]] (VW.ret ?_)
 exact ⟨[], by kernel_rfl, by kernel_rfl, by kernel_rfl⟩
def F96_j0 (N : Nat) (x101 : Int) (x102 : (List Z64)) : Option ((List Z64) × Int) :=
  some (x102, x101)
def F96_l0_b (N : Nat) (nx171 : (List Z64) → Int → Int → Option ((List Z64) × Int)) (x136 : (List Z64)) (x137 : Int) (x138 : Int) : Option ((List Z64) × Int) :=
  cond (decide (x138 < (x136.length : Int))) (gd (InR x138 x136.length) (gd (x138.toNat < x136.length) (andO (F95 N (IntKind.i64.wrap (x137 + (1 : Int)))) fun y190 => gd (InR x138 (x136.set x138.toNat (x137, ((x136.getD x138.toNat (Ty.dflt Y64)).2.1, ((x136.getD x138.toNat (Ty.dflt Y64)).2.2.1, ((x136.getD x138.toNat (Ty.dflt Y64)).2.2.2.1, ((x136.getD x138.toNat (Ty.dflt Y64)).2.2.2.2.1, ((x136.getD x138.toNat (Ty.dflt Y64)).2.2.2.2.2.1, (x136.getD x138.toNat (Ty.dflt Y64)).2.2.2.2.2.2))))))).length) (gd (x138.toNat < (x136.set x138.toNat (x137, ((x136.getD x138.toNat (Ty.dflt Y64)).2.1, ((x136.getD x138.toNat (Ty.dflt Y64)).2.2.1, ((x136.getD x138.toNat (Ty.dflt Y64)).2.2.2.1, ((x136.getD x138.toNat (Ty.dflt Y64)).2.2.2.2.1, ((x136.getD x138.toNat (Ty.dflt Y64)).2.2.2.2.2.1, (x136.getD x138.toNat (Ty.dflt Y64)).2.2.2.2.2.2))))))).length) (gd (InR x138 (x136.set x138.toNat (x137, (y190, ((x136.getD x138.toNat (Ty.dflt Y64)).2.2.1, ((x136.getD x138.toNat (Ty.dflt Y64)).2.2.2.1, ((x136.getD x138.toNat (Ty.dflt Y64)).2.2.2.2.1, ((x136.getD x138.toNat (Ty.dflt Y64)).2.2.2.2.2.1, (x136.getD x138.toNat (Ty.dflt Y64)).2.2.2.2.2.2))))))).length) (gd (x138.toNat < (x136.set x138.toNat (x137, (y190, ((x136.getD x138.toNat (Ty.dflt Y64)).2.2.1, ((x136.getD x138.toNat (Ty.dflt Y64)).2.2.2.1, ((x136.getD x138.toNat (Ty.dflt Y64)).2.2.2.2.1, ((x136.getD x138.toNat (Ty.dflt Y64)).2.2.2.2.2.1, (x136.getD x138.toNat (Ty.dflt Y64)).2.2.2.2.2.2))))))).length) (gd (InR x138 (x136.set x138.toNat (x137, (y190, ((IntKind.i64.wrap ((IntKind.i64.wrap (x137 + (1 : Int))) + (1 : Int))), ((x136.getD x138.toNat (Ty.dflt Y64)).2.2.2.1, ((x136.getD x138.toNat (Ty.dflt Y64)).2.2.2.2.1, ((x136.getD x138.toNat (Ty.dflt Y64)).2.2.2.2.2.1, (x136.getD x138.toNat (Ty.dflt Y64)).2.2.2.2.2.2))))))).length) (gd (x138.toNat < (x136.set x138.toNat (x137, (y190, ((IntKind.i64.wrap ((IntKind.i64.wrap (x137 + (1 : Int))) + (1 : Int))), ((x136.getD x138.toNat (Ty.dflt Y64)).2.2.2.1, ((x136.getD x138.toNat (Ty.dflt Y64)).2.2.2.2.1, ((x136.getD x138.toNat (Ty.dflt Y64)).2.2.2.2.2.1, (x136.getD x138.toNat (Ty.dflt Y64)).2.2.2.2.2.2))))))).length) (gd (InR x138 (x136.set x138.toNat (x137, (y190, ((IntKind.i64.wrap ((IntKind.i64.wrap (x137 + (1 : Int))) + (1 : Int))), ((IntKind.i64.wrap ((IntKind.i64.wrap ((IntKind.i64.wrap (x137 + (1 : Int))) + (1 : Int))) + (1 : Int))), ((x136.getD x138.toNat (Ty.dflt Y64)).2.2.2.2.1, ((x136.getD x138.toNat (Ty.dflt Y64)).2.2.2.2.2.1, (x136.getD x138.toNat (Ty.dflt Y64)).2.2.2.2.2.2))))))).length) (gd (x138.toNat < (x136.set x138.toNat (x137, (y190, ((IntKind.i64.wrap ((IntKind.i64.wrap (x137 + (1 : Int))) + (1 : Int))), ((IntKind.i64.wrap ((IntKind.i64.wrap ((IntKind.i64.wrap (x137 + (1 : Int))) + (1 : Int))) + (1 : Int))), ((x136.getD x138.toNat (Ty.dflt Y64)).2.2.2.2.1, ((x136.getD x138.toNat (Ty.dflt Y64)).2.2.2.2.2.1, (x136.getD x138.toNat (Ty.dflt Y64)).2.2.2.2.2.2))))))).length) (gd (InR x138 (x136.set x138.toNat (x137, (y190, ((IntKind.i64.wrap ((IntKind.i64.wrap (x137 + (1 : Int))) + (1 : Int))), ((IntKind.i64.wrap ((IntKind.i64.wrap ((IntKind.i64.wrap (x137 + (1 : Int))) + (1 : Int))) + (1 : Int))), ((IntKind.i64.wrap ((IntKind.i64.wrap ((IntKind.i64.wrap ((IntKind.i64.wrap (x137 + (1 : Int))) + (1 : Int))) + (1 : Int))) + (1 : Int))), ((x136.getD x138.toNat (Ty.dflt Y64)).2.2.2.2.2.1, (x136.getD x138.toNat (Ty.dflt Y64)).2.2.2.2.2.2))))))).length) (gd (x138.toNat < (x136.set x138.toNat (x137, (y190, ((IntKind.i64.wrap ((IntKind.i64.wrap (x137 + (1 : Int))) + (1 : Int))), ((IntKind.i64.wrap ((IntKind.i64.wrap ((IntKind.i64.wrap (x137 + (1 : Int))) + (1 : Int))) + (1 : Int))), ((IntKind.i64.wrap ((IntKind.i64.wrap ((IntKind.i64.wrap ((IntKind.i64.wrap (x137 + (1 : Int))) + (1 : Int))) + (1 : Int))) + (1 : Int))), ((x136.getD x138.toNat (Ty.dflt Y64)).2.2.2.2.2.1, (x136.getD x138.toNat (Ty.dflt Y64)).2.2.2.2.2.2))))))).length) (gd (InR x138 (x136.set x138.toNat (x137, (y190, ((IntKind.i64.wrap ((IntKind.i64.wrap (x137 + (1 : Int))) + (1 : Int))), ((IntKind.i64.wrap ((IntKind.i64.wrap ((IntKind.i64.wrap (x137 + (1 : Int))) + (1 : Int))) + (1 : Int))), ((IntKind.i64.wrap ((IntKind.i64.wrap ((IntKind.i64.wrap ((IntKind.i64.wrap (x137 + (1 : Int))) + (1 : Int))) + (1 : Int))) + (1 : Int))), (((Int.tmod (IntKind.i64.wrap ((IntKind.i64.wrap ((IntKind.i64.wrap ((IntKind.i64.wrap ((IntKind.i64.wrap (x137 + (1 : Int))) + (1 : Int))) + (1 : Int))) + (1 : Int))) + (1 : Int))) (3 : Int)) == (0 : Int)), (x136.getD x138.toNat (Ty.dflt Y64)).2.2.2.2.2.2))))))).length) (gd (x138.toNat < x136.length) (andO (F119 N ((x136.getD x138.toNat (Ty.dflt Y64)).2.2.2.2.2.2) (IntKind.i64.wrap ((IntKind.i64.wrap ((IntKind.i64.wrap ((IntKind.i64.wrap ((IntKind.i64.wrap ((IntKind.i64.wrap (x137 + (1 : Int))) + (1 : Int))) + (1 : Int))) + (1 : Int))) + (1 : Int))) + (1 : Int)))) fun y202 => nx171 (x136.set x138.toNat (x137, (y190, ((IntKind.i64.wrap ((IntKind.i64.wrap (x137 + (1 : Int))) + (1 : Int))), ((IntKind.i64.wrap ((IntKind.i64.wrap ((IntKind.i64.wrap (x137 + (1 : Int))) + (1 : Int))) + (1 : Int))), ((IntKind.i64.wrap ((IntKind.i64.wrap ((IntKind.i64.wrap ((IntKind.i64.wrap (x137 + (1 : Int))) + (1 : Int))) + (1 : Int))) + (1 : Int))), (((Int.tmod (IntKind.i64.wrap ((IntKind.i64.wrap ((IntKind.i64.wrap ((IntKind.i64.wrap ((IntKind.i64.wrap (x137 + (1 : Int))) + (1 : Int))) + (1 : Int))) + (1 : Int))) + (1 : Int))) (3 : Int)) == (0 : Int)), y202.1))))))) y202.2 (IntKind.i64.wrap (x138 + (1 : Int)))))))))))))))))) (F96_j0 N x137 x136)
def F96_l0 (N : Nat) := loopF (F96_l0_b N) (fun _ _ _ => none)
theorem F96_l0_s N {k} (hk : 0 < k) x136 x137 x138 : F96_l0 N k x136 x137 x138 = F96_l0_b N (F96_l0 N (k - 1)) x136 x137 x138 := by cases k;cases hk;rfl
def F96 (N : Nat) (a0 : (List Z64)) (a1 : Int) : Option ((List Z64) × Int) :=
  F96_l0 N N a0 a1 (0 : Int)
theorem ok96 N a0 a1 {r} (h : F96 N a0 a1 = some r) : ConM prog 96 [ar 0 Y64 a0 .dp] [hh 0, I a1] [.lf (.v (.int .i64) r.2)] [ar 0 Y64 r.1 .dp] := by
 refine ⟨enters_of func96 rfl (by decide), HM.intro [.lf (.v (.int .i64))] K func96 rfl (Nat.le_of_ble_eq_true rfl) (Nat.le_of_ble_eq_true rfl) fun w0 E0 ht => ?_⟩
 unfold F96 at h
 show VW _ _ _ _ _ (retM _ _ _ _ _) _
 refine nR K (tn 1) ?_
 refine VW.join (fun s => ∃ x101 x102, s = ⟨[(1, I x101), (65536, hh 0)], [ar 0 Y64 x102 .dp]⟩ ∧ F96_j0 N x101 x102 = some r) ?_ ?_
 ·refine nR K (tn 1) <| VW.block <| lop (fun k s => ∃ x136 x137 x138, s = ⟨[(0, hh 0), (1, I x137), (5, I x138), (65536, hh 0)], [ar 0 Y64 x136 .dp]⟩ ∧ F96_l0 N k x136 x137 x138 = some r) N [.ren [0, 1, 5, 65536] [0]] ⟨a0, a1, (0 : Int), rfl, h⟩ ?_
  rintro k171 s ⟨x136, x137, x138, rfl, h⟩
  cases k171 with
  | zero => cases show none = some r from h
  | succ k171 =>
   replace h : F96_l0_b N (F96_l0 N k171) x136 x137 x138 = some r := h
   unfold F96_l0_b at h
   refine sq <| nR K (tn 4) ?_
   refine cnd h ?_ ?_<;>intro h
   ·refine VW.skip <| sq <| VW.block ?_
    obtain⟨g188,h⟩:=gS h
    obtain⟨g189,h⟩:=gS h
    refine nR K (pu 3 (an g188 (pu 1 (an g189 (tn 0))))) <| nR K (tn 3) <| sq <| VW.region <| nG K 3 (tn 3) ?_
    obtain⟨y190,hy,h⟩:=aS h
    refine clc false [.t (.int .i64)] [] (some 22) K (ok95 N _ hy) ?_
    obtain⟨g191,h⟩:=gS h
    obtain⟨g192,h⟩:=gS h
    refine sG K 3 [0, 1, 5, 65536] [0] ⟨[(0, hh 0), (1, I (wr (x137 + (1 : Int)))), (5, I x138), (65536, hh 0)], [ar 0 Y64 ((x136.set x138.toNat (x137, ((x136.getD x138.toNat D64).2.1, ((x136.getD x138.toNat D64).2.2.1, ((x136.getD x138.toNat D64).2.2.2.1, ((x136.getD x138.toNat D64).2.2.2.2.1, ((x136.getD x138.toNat D64).2.2.2.2.2.1, (x136.getD x138.toNat D64).2.2.2.2.2.2))))))).set x138.toNat (((x136.set x138.toNat (x137, ((x136.getD x138.toNat D64).2.1, ((x136.getD x138.toNat D64).2.2.1, ((x136.getD x138.toNat D64).2.2.2.1, ((x136.getD x138.toNat D64).2.2.2.2.1, ((x136.getD x138.toNat D64).2.2.2.2.2.1, (x136.getD x138.toNat D64).2.2.2.2.2.2))))))).getD x138.toNat D64).1, (y190, (((x136.set x138.toNat (x137, ((x136.getD x138.toNat D64).2.1, ((x136.getD x138.toNat D64).2.2.1, ((x136.getD x138.toNat D64).2.2.2.1, ((x136.getD x138.toNat D64).2.2.2.2.1, ((x136.getD x138.toNat D64).2.2.2.2.2.1, (x136.getD x138.toNat D64).2.2.2.2.2.2))))))).getD x138.toNat D64).2.2.1, (((x136.set x138.toNat (x137, ((x136.getD x138.toNat D64).2.1, ((x136.getD x138.toNat D64).2.2.1, ((x136.getD x138.toNat D64).2.2.2.1, ((x136.getD x138.toNat D64).2.2.2.2.1, ((x136.getD x138.toNat D64).2.2.2.2.2.1, (x136.getD x138.toNat D64).2.2.2.2.2.2))))))).getD x138.toNat D64).2.2.2.1, (((x136.set x138.toNat (x137, ((x136.getD x138.toNat D64).2.1, ((x136.getD x138.toNat D64).2.2.1, ((x136.getD x138.toNat D64).2.2.2.1, ((x136.getD x138.toNat D64).2.2.2.2.1, ((x136.getD x138.toNat D64).2.2.2.2.2.1, (x136.getD x138.toNat D64).2.2.2.2.2.2))))))).getD x138.toNat D64).2.2.2.2.1, (((x136.set x138.toNat (x137, ((x136.getD x138.toNat D64).2.1, ((x136.getD x138.toNat D64).2.2.1, ((x136.getD x138.toNat D64).2.2.2.1, ((x136.getD x138.toNat D64).2.2.2.2.1, ((x136.getD x138.toNat D64).2.2.2.2.2.1, (x136.getD x138.toNat D64).2.2.2.2.2.2))))))).getD x138.toNat D64).2.2.2.2.2.1, ((x136.set x138.toNat (x137, ((x136.getD x138.toNat D64).2.1, ((x136.getD x138.toNat D64).2.2.1, ((x136.getD x138.toNat D64).2.2.2.1, ((x136.getD x138.toNat D64).2.2.2.2.1, ((x136.getD x138.toNat D64).2.2.2.2.2.1, (x136.getD x138.toNat D64).2.2.2.2.2.2))))))).getD x138.toNat D64).2.2.2.2.2.2))))))) .dp]⟩ (an g191 (pu 1 (an g192 (tn 0)))) ?_
    rw [show ((x136.set x138.toNat (x137, ((x136.getD x138.toNat D64).2.1, ((x136.getD x138.toNat D64).2.2.1, ((x136.getD x138.toNat D64).2.2.2.1, ((x136.getD x138.toNat D64).2.2.2.2.1, ((x136.getD x138.toNat D64).2.2.2.2.2.1, (x136.getD x138.toNat D64).2.2.2.2.2.2))))))).set x138.toNat (((x136.set x138.toNat (x137, ((x136.getD x138.toNat D64).2.1, ((x136.getD x138.toNat D64).2.2.1, ((x136.getD x138.toNat D64).2.2.2.1, ((x136.getD x138.toNat D64).2.2.2.2.1, ((x136.getD x138.toNat D64).2.2.2.2.2.1, (x136.getD x138.toNat D64).2.2.2.2.2.2))))))).getD x138.toNat D64).1, (y190, (((x136.set x138.toNat (x137, ((x136.getD x138.toNat D64).2.1, ((x136.getD x138.toNat D64).2.2.1, ((x136.getD x138.toNat D64).2.2.2.1, ((x136.getD x138.toNat D64).2.2.2.2.1, ((x136.getD x138.toNat D64).2.2.2.2.2.1, (x136.getD x138.toNat D64).2.2.2.2.2.2))))))).getD x138.toNat D64).2.2.1, (((x136.set x138.toNat (x137, ((x136.getD x138.toNat D64).2.1, ((x136.getD x138.toNat D64).2.2.1, ((x136.getD x138.toNat D64).2.2.2.1, ((x136.getD x138.toNat D64).2.2.2.2.1, ((x136.getD x138.toNat D64).2.2.2.2.2.1, (x136.getD x138.toNat D64).2.2.2.2.2.2))))))).getD x138.toNat D64).2.2.2.1, (((x136.set x138.toNat (x137, ((x136.getD x138.toNat D64).2.1, ((x136.getD x138.toNat D64).2.2.1, ((x136.getD x138.toNat D64).2.2.2.1, ((x136.getD x138.toNat D64).2.2.2.2.1, ((x136.getD x138.toNat D64).2.2.2.2.2.1, (x136.getD x138.toNat D64).2.2.2.2.2.2))))))).getD x138.toNat D64).2.2.2.2.1, (((x136.set x138.toNat (x137, ((x136.getD x138.toNat D64).2.1, ((x136.getD x138.toNat D64).2.2.1, ((x136.getD x138.toNat D64).2.2.2.1, ((x136.getD x138.toNat D64).2.2.2.2.1, ((x136.getD x138.toNat D64).2.2.2.2.2.1, (x136.getD x138.toNat D64).2.2.2.2.2.2))))))).getD x138.toNat D64).2.2.2.2.2.1, ((x136.set x138.toNat (x137, ((x136.getD x138.toNat D64).2.1, ((x136.getD x138.toNat D64).2.2.1, ((x136.getD x138.toNat D64).2.2.2.1, ((x136.getD x138.toNat D64).2.2.2.2.1, ((x136.getD x138.toNat D64).2.2.2.2.2.1, (x136.getD x138.toNat D64).2.2.2.2.2.2))))))).getD x138.toNat D64).2.2.2.2.2.2))))))) = (x136.set x138.toNat (x137, (y190, ((x136.getD x138.toNat D64).2.2.1, ((x136.getD x138.toNat D64).2.2.2.1, ((x136.getD x138.toNat D64).2.2.2.2.1, ((x136.getD x138.toNat D64).2.2.2.2.2.1, (x136.getD x138.toNat D64).2.2.2.2.2.2))))))) from set_upd x136 x138.toNat (x137, ((x136.getD x138.toNat D64).2.1, ((x136.getD x138.toNat D64).2.2.1, ((x136.getD x138.toNat D64).2.2.2.1, ((x136.getD x138.toNat D64).2.2.2.2.1, ((x136.getD x138.toNat D64).2.2.2.2.2.1, (x136.getD x138.toNat D64).2.2.2.2.2.2)))))) D64 (fun z => (z.1, (y190, (z.2.2.1, (z.2.2.2.1, (z.2.2.2.2.1, (z.2.2.2.2.2.1, z.2.2.2.2.2.2))))))) (by first | (simp; done) | simpa using g192)]
    refine sN K [0, 1, 5, 65536] [0] ⟨[(0, hh 0), (1, I (wr (x137 + (1 : Int)))), (5, I x138), (65536, hh 0)], [ar 0 Y64 (x136.set x138.toNat (x137, (y190, ((x136.getD x138.toNat D64).2.2.1, ((x136.getD x138.toNat D64).2.2.2.1, ((x136.getD x138.toNat D64).2.2.2.2.1, ((x136.getD x138.toNat D64).2.2.2.2.2.1, (x136.getD x138.toNat D64).2.2.2.2.2.2))))))) .dp]⟩ (tn 0) <| nR K (tn 3) <| sq <| VW.region ?_
    obtain⟨g193,h⟩:=gS h
    obtain⟨g194,h⟩:=gS h
    refine sG K 6 [0, 1, 5, 65536] [0] ⟨[(0, hh 0), (1, I (wr ((wr (x137 + (1 : Int))) + (1 : Int)))), (5, I x138), (65536, hh 0)], [ar 0 Y64 ((x136.set x138.toNat (x137, (y190, ((x136.getD x138.toNat D64).2.2.1, ((x136.getD x138.toNat D64).2.2.2.1, ((x136.getD x138.toNat D64).2.2.2.2.1, ((x136.getD x138.toNat D64).2.2.2.2.2.1, (x136.getD x138.toNat D64).2.2.2.2.2.2))))))).set x138.toNat (((x136.set x138.toNat (x137, (y190, ((x136.getD x138.toNat D64).2.2.1, ((x136.getD x138.toNat D64).2.2.2.1, ((x136.getD x138.toNat D64).2.2.2.2.1, ((x136.getD x138.toNat D64).2.2.2.2.2.1, (x136.getD x138.toNat D64).2.2.2.2.2.2))))))).getD x138.toNat D64).1, (((x136.set x138.toNat (x137, (y190, ((x136.getD x138.toNat D64).2.2.1, ((x136.getD x138.toNat D64).2.2.2.1, ((x136.getD x138.toNat D64).2.2.2.2.1, ((x136.getD x138.toNat D64).2.2.2.2.2.1, (x136.getD x138.toNat D64).2.2.2.2.2.2))))))).getD x138.toNat D64).2.1, ((wr ((wr (x137 + (1 : Int))) + (1 : Int))), (((x136.set x138.toNat (x137, (y190, ((x136.getD x138.toNat D64).2.2.1, ((x136.getD x138.toNat D64).2.2.2.1, ((x136.getD x138.toNat D64).2.2.2.2.1, ((x136.getD x138.toNat D64).2.2.2.2.2.1, (x136.getD x138.toNat D64).2.2.2.2.2.2))))))).getD x138.toNat D64).2.2.2.1, (((x136.set x138.toNat (x137, (y190, ((x136.getD x138.toNat D64).2.2.1, ((x136.getD x138.toNat D64).2.2.2.1, ((x136.getD x138.toNat D64).2.2.2.2.1, ((x136.getD x138.toNat D64).2.2.2.2.2.1, (x136.getD x138.toNat D64).2.2.2.2.2.2))))))).getD x138.toNat D64).2.2.2.2.1, (((x136.set x138.toNat (x137, (y190, ((x136.getD x138.toNat D64).2.2.1, ((x136.getD x138.toNat D64).2.2.2.1, ((x136.getD x138.toNat D64).2.2.2.2.1, ((x136.getD x138.toNat D64).2.2.2.2.2.1, (x136.getD x138.toNat D64).2.2.2.2.2.2))))))).getD x138.toNat D64).2.2.2.2.2.1, ((x136.set x138.toNat (x137, (y190, ((x136.getD x138.toNat D64).2.2.1, ((x136.getD x138.toNat D64).2.2.2.1, ((x136.getD x138.toNat D64).2.2.2.2.1, ((x136.getD x138.toNat D64).2.2.2.2.2.1, (x136.getD x138.toNat D64).2.2.2.2.2.2))))))).getD x138.toNat D64).2.2.2.2.2.2))))))) .dp]⟩ (pu 3 (an g193 (pu 1 (an g194 (tn 0))))) ?_
    rw [show ((x136.set x138.toNat (x137, (y190, ((x136.getD x138.toNat D64).2.2.1, ((x136.getD x138.toNat D64).2.2.2.1, ((x136.getD x138.toNat D64).2.2.2.2.1, ((x136.getD x138.toNat D64).2.2.2.2.2.1, (x136.getD x138.toNat D64).2.2.2.2.2.2))))))).set x138.toNat (((x136.set x138.toNat (x137, (y190, ((x136.getD x138.toNat D64).2.2.1, ((x136.getD x138.toNat D64).2.2.2.1, ((x136.getD x138.toNat D64).2.2.2.2.1, ((x136.getD x138.toNat D64).2.2.2.2.2.1, (x136.getD x138.toNat D64).2.2.2.2.2.2))))))).getD x138.toNat D64).1, (((x136.set x138.toNat (x137, (y190, ((x136.getD x138.toNat D64).2.2.1, ((x136.getD x138.toNat D64).2.2.2.1, ((x136.getD x138.toNat D64).2.2.2.2.1, ((x136.getD x138.toNat D64).2.2.2.2.2.1, (x136.getD x138.toNat D64).2.2.2.2.2.2))))))).getD x138.toNat D64).2.1, ((wr ((wr (x137 + (1 : Int))) + (1 : Int))), (((x136.set x138.toNat (x137, (y190, ((x136.getD x138.toNat D64).2.2.1, ((x136.getD x138.toNat D64).2.2.2.1, ((x136.getD x138.toNat D64).2.2.2.2.1, ((x136.getD x138.toNat D64).2.2.2.2.2.1, (x136.getD x138.toNat D64).2.2.2.2.2.2))))))).getD x138.toNat D64).2.2.2.1, (((x136.set x138.toNat (x137, (y190, ((x136.getD x138.toNat D64).2.2.1, ((x136.getD x138.toNat D64).2.2.2.1, ((x136.getD x138.toNat D64).2.2.2.2.1, ((x136.getD x138.toNat D64).2.2.2.2.2.1, (x136.getD x138.toNat D64).2.2.2.2.2.2))))))).getD x138.toNat D64).2.2.2.2.1, (((x136.set x138.toNat (x137, (y190, ((x136.getD x138.toNat D64).2.2.1, ((x136.getD x138.toNat D64).2.2.2.1, ((x136.getD x138.toNat D64).2.2.2.2.1, ((x136.getD x138.toNat D64).2.2.2.2.2.1, (x136.getD x138.toNat D64).2.2.2.2.2.2))))))).getD x138.toNat D64).2.2.2.2.2.1, ((x136.set x138.toNat (x137, (y190, ((x136.getD x138.toNat D64).2.2.1, ((x136.getD x138.toNat D64).2.2.2.1, ((x136.getD x138.toNat D64).2.2.2.2.1, ((x136.getD x138.toNat D64).2.2.2.2.2.1, (x136.getD x138.toNat D64).2.2.2.2.2.2))))))).getD x138.toNat D64).2.2.2.2.2.2))))))) = (x136.set x138.toNat (x137, (y190, ((wr ((wr (x137 + (1 : Int))) + (1 : Int))), ((x136.getD x138.toNat D64).2.2.2.1, ((x136.getD x138.toNat D64).2.2.2.2.1, ((x136.getD x138.toNat D64).2.2.2.2.2.1, (x136.getD x138.toNat D64).2.2.2.2.2.2))))))) from set_upd x136 x138.toNat (x137, (y190, ((x136.getD x138.toNat D64).2.2.1, ((x136.getD x138.toNat D64).2.2.2.1, ((x136.getD x138.toNat D64).2.2.2.2.1, ((x136.getD x138.toNat D64).2.2.2.2.2.1, (x136.getD x138.toNat D64).2.2.2.2.2.2)))))) D64 (fun z => (z.1, (z.2.1, ((wr ((wr (x137 + (1 : Int))) + (1 : Int))), (z.2.2.2.1, (z.2.2.2.2.1, (z.2.2.2.2.2.1, z.2.2.2.2.2.2))))))) (by first | (simp; done) | simpa using g194)]
    refine sN K [0, 1, 5, 65536] [0] ⟨[(0, hh 0), (1, I (wr ((wr (x137 + (1 : Int))) + (1 : Int)))), (5, I x138), (65536, hh 0)], [ar 0 Y64 (x136.set x138.toNat (x137, (y190, ((wr ((wr (x137 + (1 : Int))) + (1 : Int))), ((x136.getD x138.toNat D64).2.2.2.1, ((x136.getD x138.toNat D64).2.2.2.2.1, ((x136.getD x138.toNat D64).2.2.2.2.2.1, (x136.getD x138.toNat D64).2.2.2.2.2.2))))))) .dp]⟩ (tn 0) <| nR K (tn 3) ?_
    refine sq <| VW.region ?_
    obtain⟨g195,h⟩:=gS h
    obtain⟨g196,h⟩:=gS h
    refine sG K 6 [0, 1, 5, 65536] [0] ⟨[(0, hh 0), (1, I (wr ((wr ((wr (x137 + (1 : Int))) + (1 : Int))) + (1 : Int)))), (5, I x138), (65536, hh 0)], [ar 0 Y64 ((x136.set x138.toNat (x137, (y190, ((wr ((wr (x137 + (1 : Int))) + (1 : Int))), ((x136.getD x138.toNat D64).2.2.2.1, ((x136.getD x138.toNat D64).2.2.2.2.1, ((x136.getD x138.toNat D64).2.2.2.2.2.1, (x136.getD x138.toNat D64).2.2.2.2.2.2))))))).set x138.toNat (((x136.set x138.toNat (x137, (y190, ((wr ((wr (x137 + (1 : Int))) + (1 : Int))), ((x136.getD x138.toNat D64).2.2.2.1, ((x136.getD x138.toNat D64).2.2.2.2.1, ((x136.getD x138.toNat D64).2.2.2.2.2.1, (x136.getD x138.toNat D64).2.2.2.2.2.2))))))).getD x138.toNat D64).1, (((x136.set x138.toNat (x137, (y190, ((wr ((wr (x137 + (1 : Int))) + (1 : Int))), ((x136.getD x138.toNat D64).2.2.2.1, ((x136.getD x138.toNat D64).2.2.2.2.1, ((x136.getD x138.toNat D64).2.2.2.2.2.1, (x136.getD x138.toNat D64).2.2.2.2.2.2))))))).getD x138.toNat D64).2.1, (((x136.set x138.toNat (x137, (y190, ((wr ((wr (x137 + (1 : Int))) + (1 : Int))), ((x136.getD x138.toNat D64).2.2.2.1, ((x136.getD x138.toNat D64).2.2.2.2.1, ((x136.getD x138.toNat D64).2.2.2.2.2.1, (x136.getD x138.toNat D64).2.2.2.2.2.2))))))).getD x138.toNat D64).2.2.1, ((wr ((wr ((wr (x137 + (1 : Int))) + (1 : Int))) + (1 : Int))), (((x136.set x138.toNat (x137, (y190, ((wr ((wr (x137 + (1 : Int))) + (1 : Int))), ((x136.getD x138.toNat D64).2.2.2.1, ((x136.getD x138.toNat D64).2.2.2.2.1, ((x136.getD x138.toNat D64).2.2.2.2.2.1, (x136.getD x138.toNat D64).2.2.2.2.2.2))))))).getD x138.toNat D64).2.2.2.2.1, (((x136.set x138.toNat (x137, (y190, ((wr ((wr (x137 + (1 : Int))) + (1 : Int))), ((x136.getD x138.toNat D64).2.2.2.1, ((x136.getD x138.toNat D64).2.2.2.2.1, ((x136.getD x138.toNat D64).2.2.2.2.2.1, (x136.getD x138.toNat D64).2.2.2.2.2.2))))))).getD x138.toNat D64).2.2.2.2.2.1, ((x136.set x138.toNat (x137, (y190, ((wr ((wr (x137 + (1 : Int))) + (1 : Int))), ((x136.getD x138.toNat D64).2.2.2.1, ((x136.getD x138.toNat D64).2.2.2.2.1, ((x136.getD x138.toNat D64).2.2.2.2.2.1, (x136.getD x138.toNat D64).2.2.2.2.2.2))))))).getD x138.toNat D64).2.2.2.2.2.2))))))) .dp]⟩ (pu 3 (an g195 (pu 1 (an g196 (tn 0))))) ?_
    rw [show ((x136.set x138.toNat (x137, (y190, ((wr ((wr (x137 + (1 : Int))) + (1 : Int))), ((x136.getD x138.toNat D64).2.2.2.1, ((x136.getD x138.toNat D64).2.2.2.2.1, ((x136.getD x138.toNat D64).2.2.2.2.2.1, (x136.getD x138.toNat D64).2.2.2.2.2.2))))))).set x138.toNat (((x136.set x138.toNat (x137, (y190, ((wr ((wr (x137 + (1 : Int))) + (1 : Int))), ((x136.getD x138.toNat D64).2.2.2.1, ((x136.getD x138.toNat D64).2.2.2.2.1, ((x136.getD x138.toNat D64).2.2.2.2.2.1, (x136.getD x138.toNat D64).2.2.2.2.2.2))))))).getD x138.toNat D64).1, (((x136.set x138.toNat (x137, (y190, ((wr ((wr (x137 + (1 : Int))) + (1 : Int))), ((x136.getD x138.toNat D64).2.2.2.1, ((x136.getD x138.toNat D64).2.2.2.2.1, ((x136.getD x138.toNat D64).2.2.2.2.2.1, (x136.getD x138.toNat D64).2.2.2.2.2.2))))))).getD x138.toNat D64).2.1, (((x136.set x138.toNat (x137, (y190, ((wr ((wr (x137 + (1 : Int))) + (1 : Int))), ((x136.getD x138.toNat D64).2.2.2.1, ((x136.getD x138.toNat D64).2.2.2.2.1, ((x136.getD x138.toNat D64).2.2.2.2.2.1, (x136.getD x138.toNat D64).2.2.2.2.2.2))))))).getD x138.toNat D64).2.2.1, ((wr ((wr ((wr (x137 + (1 : Int))) + (1 : Int))) + (1 : Int))), (((x136.set x138.toNat (x137, (y190, ((wr ((wr (x137 + (1 : Int))) + (1 : Int))), ((x136.getD x138.toNat D64).2.2.2.1, ((x136.getD x138.toNat D64).2.2.2.2.1, ((x136.getD x138.toNat D64).2.2.2.2.2.1, (x136.getD x138.toNat D64).2.2.2.2.2.2))))))).getD x138.toNat D64).2.2.2.2.1, (((x136.set x138.toNat (x137, (y190, ((wr ((wr (x137 + (1 : Int))) + (1 : Int))), ((x136.getD x138.toNat D64).2.2.2.1, ((x136.getD x138.toNat D64).2.2.2.2.1, ((x136.getD x138.toNat D64).2.2.2.2.2.1, (x136.getD x138.toNat D64).2.2.2.2.2.2))))))).getD x138.toNat D64).2.2.2.2.2.1, ((x136.set x138.toNat (x137, (y190, ((wr ((wr (x137 + (1 : Int))) + (1 : Int))), ((x136.getD x138.toNat D64).2.2.2.1, ((x136.getD x138.toNat D64).2.2.2.2.1, ((x136.getD x138.toNat D64).2.2.2.2.2.1, (x136.getD x138.toNat D64).2.2.2.2.2.2))))))).getD x138.toNat D64).2.2.2.2.2.2))))))) = (x136.set x138.toNat (x137, (y190, ((wr ((wr (x137 + (1 : Int))) + (1 : Int))), ((wr ((wr ((wr (x137 + (1 : Int))) + (1 : Int))) + (1 : Int))), ((x136.getD x138.toNat D64).2.2.2.2.1, ((x136.getD x138.toNat D64).2.2.2.2.2.1, (x136.getD x138.toNat D64).2.2.2.2.2.2))))))) from set_upd x136 x138.toNat (x137, (y190, ((wr ((wr (x137 + (1 : Int))) + (1 : Int))), ((x136.getD x138.toNat D64).2.2.2.1, ((x136.getD x138.toNat D64).2.2.2.2.1, ((x136.getD x138.toNat D64).2.2.2.2.2.1, (x136.getD x138.toNat D64).2.2.2.2.2.2)))))) D64 (fun z => (z.1, (z.2.1, (z.2.2.1, ((wr ((wr ((wr (x137 + (1 : Int))) + (1 : Int))) + (1 : Int))), (z.2.2.2.2.1, (z.2.2.2.2.2.1, z.2.2.2.2.2.2))))))) (by first | (simp; done) | simpa using g196)]
    refine sN K [0, 1, 5, 65536] [0] ⟨[(0, hh 0), (1, I (wr ((wr ((wr (x137 + (1 : Int))) + (1 : Int))) + (1 : Int)))), (5, I x138), (65536, hh 0)], [ar 0 Y64 (x136.set x138.toNat (x137, (y190, ((wr ((wr (x137 + (1 : Int))) + (1 : Int))), ((wr ((wr ((wr (x137 + (1 : Int))) + (1 : Int))) + (1 : Int))), ((x136.getD x138.toNat D64).2.2.2.2.1, ((x136.getD x138.toNat D64).2.2.2.2.2.1, (x136.getD x138.toNat D64).2.2.2.2.2.2))))))) .dp]⟩ (tn 0) ?_
    refine nR K (tn 3) <| sq <| VW.region ?_
    obtain⟨g197,h⟩:=gS h
    obtain⟨g198,h⟩:=gS h
    refine sG K 6 [0, 1, 5, 65536] [0] ⟨[(0, hh 0), (1, I (wr ((wr ((wr ((wr (x137 + (1 : Int))) + (1 : Int))) + (1 : Int))) + (1 : Int)))), (5, I x138), (65536, hh 0)], [ar 0 Y64 ((x136.set x138.toNat (x137, (y190, ((wr ((wr (x137 + (1 : Int))) + (1 : Int))), ((wr ((wr ((wr (x137 + (1 : Int))) + (1 : Int))) + (1 : Int))), ((x136.getD x138.toNat D64).2.2.2.2.1, ((x136.getD x138.toNat D64).2.2.2.2.2.1, (x136.getD x138.toNat D64).2.2.2.2.2.2))))))).set x138.toNat (((x136.set x138.toNat (x137, (y190, ((wr ((wr (x137 + (1 : Int))) + (1 : Int))), ((wr ((wr ((wr (x137 + (1 : Int))) + (1 : Int))) + (1 : Int))), ((x136.getD x138.toNat D64).2.2.2.2.1, ((x136.getD x138.toNat D64).2.2.2.2.2.1, (x136.getD x138.toNat D64).2.2.2.2.2.2))))))).getD x138.toNat D64).1, (((x136.set x138.toNat (x137, (y190, ((wr ((wr (x137 + (1 : Int))) + (1 : Int))), ((wr ((wr ((wr (x137 + (1 : Int))) + (1 : Int))) + (1 : Int))), ((x136.getD x138.toNat D64).2.2.2.2.1, ((x136.getD x138.toNat D64).2.2.2.2.2.1, (x136.getD x138.toNat D64).2.2.2.2.2.2))))))).getD x138.toNat D64).2.1, (((x136.set x138.toNat (x137, (y190, ((wr ((wr (x137 + (1 : Int))) + (1 : Int))), ((wr ((wr ((wr (x137 + (1 : Int))) + (1 : Int))) + (1 : Int))), ((x136.getD x138.toNat D64).2.2.2.2.1, ((x136.getD x138.toNat D64).2.2.2.2.2.1, (x136.getD x138.toNat D64).2.2.2.2.2.2))))))).getD x138.toNat D64).2.2.1, (((x136.set x138.toNat (x137, (y190, ((wr ((wr (x137 + (1 : Int))) + (1 : Int))), ((wr ((wr ((wr (x137 + (1 : Int))) + (1 : Int))) + (1 : Int))), ((x136.getD x138.toNat D64).2.2.2.2.1, ((x136.getD x138.toNat D64).2.2.2.2.2.1, (x136.getD x138.toNat D64).2.2.2.2.2.2))))))).getD x138.toNat D64).2.2.2.1, ((wr ((wr ((wr ((wr (x137 + (1 : Int))) + (1 : Int))) + (1 : Int))) + (1 : Int))), (((x136.set x138.toNat (x137, (y190, ((wr ((wr (x137 + (1 : Int))) + (1 : Int))), ((wr ((wr ((wr (x137 + (1 : Int))) + (1 : Int))) + (1 : Int))), ((x136.getD x138.toNat D64).2.2.2.2.1, ((x136.getD x138.toNat D64).2.2.2.2.2.1, (x136.getD x138.toNat D64).2.2.2.2.2.2))))))).getD x138.toNat D64).2.2.2.2.2.1, ((x136.set x138.toNat (x137, (y190, ((wr ((wr (x137 + (1 : Int))) + (1 : Int))), ((wr ((wr ((wr (x137 + (1 : Int))) + (1 : Int))) + (1 : Int))), ((x136.getD x138.toNat D64).2.2.2.2.1, ((x136.getD x138.toNat D64).2.2.2.2.2.1, (x136.getD x138.toNat D64).2.2.2.2.2.2))))))).getD x138.toNat D64).2.2.2.2.2.2))))))) .dp]⟩ (pu 3 (an g197 (pu 1 (an g198 (tn 0))))) ?_
    rw [show ((x136.set x138.toNat (x137, (y190, ((wr ((wr (x137 + (1 : Int))) + (1 : Int))), ((wr ((wr ((wr (x137 + (1 : Int))) + (1 : Int))) + (1 : Int))), ((x136.getD x138.toNat D64).2.2.2.2.1, ((x136.getD x138.toNat D64).2.2.2.2.2.1, (x136.getD x138.toNat D64).2.2.2.2.2.2))))))).set x138.toNat (((x136.set x138.toNat (x137, (y190, ((wr ((wr (x137 + (1 : Int))) + (1 : Int))), ((wr ((wr ((wr (x137 + (1 : Int))) + (1 : Int))) + (1 : Int))), ((x136.getD x138.toNat D64).2.2.2.2.1, ((x136.getD x138.toNat D64).2.2.2.2.2.1, (x136.getD x138.toNat D64).2.2.2.2.2.2))))))).getD x138.toNat D64).1, (((x136.set x138.toNat (x137, (y190, ((wr ((wr (x137 + (1 : Int))) + (1 : Int))), ((wr ((wr ((wr (x137 + (1 : Int))) + (1 : Int))) + (1 : Int))), ((x136.getD x138.toNat D64).2.2.2.2.1, ((x136.getD x138.toNat D64).2.2.2.2.2.1, (x136.getD x138.toNat D64).2.2.2.2.2.2))))))).getD x138.toNat D64).2.1, (((x136.set x138.toNat (x137, (y190, ((wr ((wr (x137 + (1 : Int))) + (1 : Int))), ((wr ((wr ((wr (x137 + (1 : Int))) + (1 : Int))) + (1 : Int))), ((x136.getD x138.toNat D64).2.2.2.2.1, ((x136.getD x138.toNat D64).2.2.2.2.2.1, (x136.getD x138.toNat D64).2.2.2.2.2.2))))))).getD x138.toNat D64).2.2.1, (((x136.set x138.toNat (x137, (y190, ((wr ((wr (x137 + (1 : Int))) + (1 : Int))), ((wr ((wr ((wr (x137 + (1 : Int))) + (1 : Int))) + (1 : Int))), ((x136.getD x138.toNat D64).2.2.2.2.1, ((x136.getD x138.toNat D64).2.2.2.2.2.1, (x136.getD x138.toNat D64).2.2.2.2.2.2))))))).getD x138.toNat D64).2.2.2.1, ((wr ((wr ((wr ((wr (x137 + (1 : Int))) + (1 : Int))) + (1 : Int))) + (1 : Int))), (((x136.set x138.toNat (x137, (y190, ((wr ((wr (x137 + (1 : Int))) + (1 : Int))), ((wr ((wr ((wr (x137 + (1 : Int))) + (1 : Int))) + (1 : Int))), ((x136.getD x138.toNat D64).2.2.2.2.1, ((x136.getD x138.toNat D64).2.2.2.2.2.1, (x136.getD x138.toNat D64).2.2.2.2.2.2))))))).getD x138.toNat D64).2.2.2.2.2.1, ((x136.set x138.toNat (x137, (y190, ((wr ((wr (x137 + (1 : Int))) + (1 : Int))), ((wr ((wr ((wr (x137 + (1 : Int))) + (1 : Int))) + (1 : Int))), ((x136.getD x138.toNat D64).2.2.2.2.1, ((x136.getD x138.toNat D64).2.2.2.2.2.1, (x136.getD x138.toNat D64).2.2.2.2.2.2))))))).getD x138.toNat D64).2.2.2.2.2.2))))))) = (x136.set x138.toNat (x137, (y190, ((wr ((wr (x137 + (1 : Int))) + (1 : Int))), ((wr ((wr ((wr (x137 + (1 : Int))) + (1 : Int))) + (1 : Int))), ((wr ((wr ((wr ((wr (x137 + (1 : Int))) + (1 : Int))) + (1 : Int))) + (1 : Int))), ((x136.getD x138.toNat D64).2.2.2.2.2.1, (x136.getD x138.toNat D64).2.2.2.2.2.2))))))) from set_upd x136 x138.toNat (x137, (y190, ((wr ((wr (x137 + (1 : Int))) + (1 : Int))), ((wr ((wr ((wr (x137 + (1 : Int))) + (1 : Int))) + (1 : Int))), ((x136.getD x138.toNat D64).2.2.2.2.1, ((x136.getD x138.toNat D64).2.2.2.2.2.1, (x136.getD x138.toNat D64).2.2.2.2.2.2)))))) D64 (fun z => (z.1, (z.2.1, (z.2.2.1, (z.2.2.2.1, ((wr ((wr ((wr ((wr (x137 + (1 : Int))) + (1 : Int))) + (1 : Int))) + (1 : Int))), (z.2.2.2.2.2.1, z.2.2.2.2.2.2))))))) (by first | (simp; done) | simpa using g198)]
    refine sN K [0, 1, 5, 65536] [0] ⟨[(0, hh 0), (1, I (wr ((wr ((wr ((wr (x137 + (1 : Int))) + (1 : Int))) + (1 : Int))) + (1 : Int)))), (5, I x138), (65536, hh 0)], [ar 0 Y64 (x136.set x138.toNat (x137, (y190, ((wr ((wr (x137 + (1 : Int))) + (1 : Int))), ((wr ((wr ((wr (x137 + (1 : Int))) + (1 : Int))) + (1 : Int))), ((wr ((wr ((wr ((wr (x137 + (1 : Int))) + (1 : Int))) + (1 : Int))) + (1 : Int))), ((x136.getD x138.toNat D64).2.2.2.2.2.1, (x136.getD x138.toNat D64).2.2.2.2.2.2))))))) .dp]⟩ (tn 0) ?_
    refine nR K (tn 3) <| sq <| VW.region ?_
    obtain⟨g199,h⟩:=gS h
    obtain⟨g200,h⟩:=gS h
    refine sG K 8 [0, 1, 5, 65536] [0] ⟨[(0, hh 0), (1, I (wr ((wr ((wr ((wr ((wr (x137 + (1 : Int))) + (1 : Int))) + (1 : Int))) + (1 : Int))) + (1 : Int)))), (5, I x138), (65536, hh 0)], [ar 0 Y64 ((x136.set x138.toNat (x137, (y190, ((wr ((wr (x137 + (1 : Int))) + (1 : Int))), ((wr ((wr ((wr (x137 + (1 : Int))) + (1 : Int))) + (1 : Int))), ((wr ((wr ((wr ((wr (x137 + (1 : Int))) + (1 : Int))) + (1 : Int))) + (1 : Int))), ((x136.getD x138.toNat D64).2.2.2.2.2.1, (x136.getD x138.toNat D64).2.2.2.2.2.2))))))).set x138.toNat (((x136.set x138.toNat (x137, (y190, ((wr ((wr (x137 + (1 : Int))) + (1 : Int))), ((wr ((wr ((wr (x137 + (1 : Int))) + (1 : Int))) + (1 : Int))), ((wr ((wr ((wr ((wr (x137 + (1 : Int))) + (1 : Int))) + (1 : Int))) + (1 : Int))), ((x136.getD x138.toNat D64).2.2.2.2.2.1, (x136.getD x138.toNat D64).2.2.2.2.2.2))))))).getD x138.toNat D64).1, (((x136.set x138.toNat (x137, (y190, ((wr ((wr (x137 + (1 : Int))) + (1 : Int))), ((wr ((wr ((wr (x137 + (1 : Int))) + (1 : Int))) + (1 : Int))), ((wr ((wr ((wr ((wr (x137 + (1 : Int))) + (1 : Int))) + (1 : Int))) + (1 : Int))), ((x136.getD x138.toNat D64).2.2.2.2.2.1, (x136.getD x138.toNat D64).2.2.2.2.2.2))))))).getD x138.toNat D64).2.1, (((x136.set x138.toNat (x137, (y190, ((wr ((wr (x137 + (1 : Int))) + (1 : Int))), ((wr ((wr ((wr (x137 + (1 : Int))) + (1 : Int))) + (1 : Int))), ((wr ((wr ((wr ((wr (x137 + (1 : Int))) + (1 : Int))) + (1 : Int))) + (1 : Int))), ((x136.getD x138.toNat D64).2.2.2.2.2.1, (x136.getD x138.toNat D64).2.2.2.2.2.2))))))).getD x138.toNat D64).2.2.1, (((x136.set x138.toNat (x137, (y190, ((wr ((wr (x137 + (1 : Int))) + (1 : Int))), ((wr ((wr ((wr (x137 + (1 : Int))) + (1 : Int))) + (1 : Int))), ((wr ((wr ((wr ((wr (x137 + (1 : Int))) + (1 : Int))) + (1 : Int))) + (1 : Int))), ((x136.getD x138.toNat D64).2.2.2.2.2.1, (x136.getD x138.toNat D64).2.2.2.2.2.2))))))).getD x138.toNat D64).2.2.2.1, (((x136.set x138.toNat (x137, (y190, ((wr ((wr (x137 + (1 : Int))) + (1 : Int))), ((wr ((wr ((wr (x137 + (1 : Int))) + (1 : Int))) + (1 : Int))), ((wr ((wr ((wr ((wr (x137 + (1 : Int))) + (1 : Int))) + (1 : Int))) + (1 : Int))), ((x136.getD x138.toNat D64).2.2.2.2.2.1, (x136.getD x138.toNat D64).2.2.2.2.2.2))))))).getD x138.toNat D64).2.2.2.2.1, (((Int.tmod (wr ((wr ((wr ((wr ((wr (x137 + (1 : Int))) + (1 : Int))) + (1 : Int))) + (1 : Int))) + (1 : Int))) (3 : Int)) == (0 : Int)), ((x136.set x138.toNat (x137, (y190, ((wr ((wr (x137 + (1 : Int))) + (1 : Int))), ((wr ((wr ((wr (x137 + (1 : Int))) + (1 : Int))) + (1 : Int))), ((wr ((wr ((wr ((wr (x137 + (1 : Int))) + (1 : Int))) + (1 : Int))) + (1 : Int))), ((x136.getD x138.toNat D64).2.2.2.2.2.1, (x136.getD x138.toNat D64).2.2.2.2.2.2))))))).getD x138.toNat D64).2.2.2.2.2.2))))))) .dp]⟩ (pu 3 (an (show ((3 : Int) ≠ 0) from by decide) (pu 1 (an g199 (pu 1 (an g200 (tn 0))))))) ?_
    rw [show ((x136.set x138.toNat (x137, (y190, ((wr ((wr (x137 + (1 : Int))) + (1 : Int))), ((wr ((wr ((wr (x137 + (1 : Int))) + (1 : Int))) + (1 : Int))), ((wr ((wr ((wr ((wr (x137 + (1 : Int))) + (1 : Int))) + (1 : Int))) + (1 : Int))), ((x136.getD x138.toNat D64).2.2.2.2.2.1, (x136.getD x138.toNat D64).2.2.2.2.2.2))))))).set x138.toNat (((x136.set x138.toNat (x137, (y190, ((wr ((wr (x137 + (1 : Int))) + (1 : Int))), ((wr ((wr ((wr (x137 + (1 : Int))) + (1 : Int))) + (1 : Int))), ((wr ((wr ((wr ((wr (x137 + (1 : Int))) + (1 : Int))) + (1 : Int))) + (1 : Int))), ((x136.getD x138.toNat D64).2.2.2.2.2.1, (x136.getD x138.toNat D64).2.2.2.2.2.2))))))).getD x138.toNat D64).1, (((x136.set x138.toNat (x137, (y190, ((wr ((wr (x137 + (1 : Int))) + (1 : Int))), ((wr ((wr ((wr (x137 + (1 : Int))) + (1 : Int))) + (1 : Int))), ((wr ((wr ((wr ((wr (x137 + (1 : Int))) + (1 : Int))) + (1 : Int))) + (1 : Int))), ((x136.getD x138.toNat D64).2.2.2.2.2.1, (x136.getD x138.toNat D64).2.2.2.2.2.2))))))).getD x138.toNat D64).2.1, (((x136.set x138.toNat (x137, (y190, ((wr ((wr (x137 + (1 : Int))) + (1 : Int))), ((wr ((wr ((wr (x137 + (1 : Int))) + (1 : Int))) + (1 : Int))), ((wr ((wr ((wr ((wr (x137 + (1 : Int))) + (1 : Int))) + (1 : Int))) + (1 : Int))), ((x136.getD x138.toNat D64).2.2.2.2.2.1, (x136.getD x138.toNat D64).2.2.2.2.2.2))))))).getD x138.toNat D64).2.2.1, (((x136.set x138.toNat (x137, (y190, ((wr ((wr (x137 + (1 : Int))) + (1 : Int))), ((wr ((wr ((wr (x137 + (1 : Int))) + (1 : Int))) + (1 : Int))), ((wr ((wr ((wr ((wr (x137 + (1 : Int))) + (1 : Int))) + (1 : Int))) + (1 : Int))), ((x136.getD x138.toNat D64).2.2.2.2.2.1, (x136.getD x138.toNat D64).2.2.2.2.2.2))))))).getD x138.toNat D64).2.2.2.1, (((x136.set x138.toNat (x137, (y190, ((wr ((wr (x137 + (1 : Int))) + (1 : Int))), ((wr ((wr ((wr (x137 + (1 : Int))) + (1 : Int))) + (1 : Int))), ((wr ((wr ((wr ((wr (x137 + (1 : Int))) + (1 : Int))) + (1 : Int))) + (1 : Int))), ((x136.getD x138.toNat D64).2.2.2.2.2.1, (x136.getD x138.toNat D64).2.2.2.2.2.2))))))).getD x138.toNat D64).2.2.2.2.1, (((Int.tmod (wr ((wr ((wr ((wr ((wr (x137 + (1 : Int))) + (1 : Int))) + (1 : Int))) + (1 : Int))) + (1 : Int))) (3 : Int)) == (0 : Int)), ((x136.set x138.toNat (x137, (y190, ((wr ((wr (x137 + (1 : Int))) + (1 : Int))), ((wr ((wr ((wr (x137 + (1 : Int))) + (1 : Int))) + (1 : Int))), ((wr ((wr ((wr ((wr (x137 + (1 : Int))) + (1 : Int))) + (1 : Int))) + (1 : Int))), ((x136.getD x138.toNat D64).2.2.2.2.2.1, (x136.getD x138.toNat D64).2.2.2.2.2.2))))))).getD x138.toNat D64).2.2.2.2.2.2))))))) = (x136.set x138.toNat (x137, (y190, ((wr ((wr (x137 + (1 : Int))) + (1 : Int))), ((wr ((wr ((wr (x137 + (1 : Int))) + (1 : Int))) + (1 : Int))), ((wr ((wr ((wr ((wr (x137 + (1 : Int))) + (1 : Int))) + (1 : Int))) + (1 : Int))), (((Int.tmod (wr ((wr ((wr ((wr ((wr (x137 + (1 : Int))) + (1 : Int))) + (1 : Int))) + (1 : Int))) + (1 : Int))) (3 : Int)) == (0 : Int)), (x136.getD x138.toNat D64).2.2.2.2.2.2))))))) from set_upd x136 x138.toNat (x137, (y190, ((wr ((wr (x137 + (1 : Int))) + (1 : Int))), ((wr ((wr ((wr (x137 + (1 : Int))) + (1 : Int))) + (1 : Int))), ((wr ((wr ((wr ((wr (x137 + (1 : Int))) + (1 : Int))) + (1 : Int))) + (1 : Int))), ((x136.getD x138.toNat D64).2.2.2.2.2.1, (x136.getD x138.toNat D64).2.2.2.2.2.2)))))) D64 (fun z => (z.1, (z.2.1, (z.2.2.1, (z.2.2.2.1, (z.2.2.2.2.1, (((Int.tmod (wr ((wr ((wr ((wr ((wr (x137 + (1 : Int))) + (1 : Int))) + (1 : Int))) + (1 : Int))) + (1 : Int))) (3 : Int)) == (0 : Int)), z.2.2.2.2.2.2))))))) (by first | (simp; done) | simpa using g200)]
    refine sN K [0, 1, 5, 65536] [0] ⟨[(0, hh 0), (1, I (wr ((wr ((wr ((wr ((wr (x137 + (1 : Int))) + (1 : Int))) + (1 : Int))) + (1 : Int))) + (1 : Int)))), (5, I x138), (65536, hh 0)], [ar 0 Y64 (x136.set x138.toNat (x137, (y190, ((wr ((wr (x137 + (1 : Int))) + (1 : Int))), ((wr ((wr ((wr (x137 + (1 : Int))) + (1 : Int))) + (1 : Int))), ((wr ((wr ((wr ((wr (x137 + (1 : Int))) + (1 : Int))) + (1 : Int))) + (1 : Int))), (((Int.tmod (wr ((wr ((wr ((wr ((wr (x137 + (1 : Int))) + (1 : Int))) + (1 : Int))) + (1 : Int))) + (1 : Int))) (3 : Int)) == (0 : Int)), (x136.getD x138.toNat D64).2.2.2.2.2.2))))))) .dp]⟩ (tn 0) ?_
    refine nR K (tn 3) <| VW.region ?_
    obtain⟨g201,h⟩:=gS h
    refine nG K 4 (pu 2 (an g201 (tn 1))) ?_
    obtain⟨g203,h⟩:=gS h
    obtain⟨y202,hy,h⟩:=aS h
    refine VO.lendInS (t := 57) (d1 := 61) (d2 := 62) (d3 := 63) (id := 0) (cur := 0) (i := x138.toNat) (j := 6) (v2 := I (wr ((wr ((wr ((wr ((wr ((wr (x137 + (1 : Int))) + (1 : Int))) + (1 : Int))) + (1 : Int))) + (1 : Int))) + (1 : Int)))) (f := 119) (l := [I (wr ((wr ((wr ((wr ((wr ((wr (x137 + (1 : Int))) + (1 : Int))) + (1 : Int))) + (1 : Int))) + (1 : Int))) + (1 : Int)))]) (e := Y64) (t' := (.int .i64)) (X := x136) (c := (x137, (y190, ((wr ((wr (x137 + (1 : Int))) + (1 : Int))), ((wr ((wr ((wr (x137 + (1 : Int))) + (1 : Int))) + (1 : Int))), ((wr ((wr ((wr ((wr (x137 + (1 : Int))) + (1 : Int))) + (1 : Int))) + (1 : Int))), (((Int.tmod (wr ((wr ((wr ((wr ((wr (x137 + (1 : Int))) + (1 : Int))) + (1 : Int))) + (1 : Int))) + (1 : Int))) (3 : Int)) == (0 : Int)), (x136.getD x138.toNat D64).2.2.2.2.2.2))))))) (ys := ((x136.getD x138.toNat D64).2.2.2.2.2.2)) (ys' := y202.1) (x' := (x137, (y190, ((wr ((wr (x137 + (1 : Int))) + (1 : Int))), ((wr ((wr ((wr (x137 + (1 : Int))) + (1 : Int))) + (1 : Int))), ((wr ((wr ((wr ((wr (x137 + (1 : Int))) + (1 : Int))) + (1 : Int))) + (1 : Int))), (((Int.tmod (wr ((wr ((wr ((wr ((wr (x137 + (1 : Int))) + (1 : Int))) + (1 : Int))) + (1 : Int))) + (1 : Int))) (3 : Int)) == (0 : Int)), y202.1))))))) (rs := [.lf (.v (.int .i64) y202.2)]) (v1 := 0) K (by kernel_rfl) (by kernel_rfl) (by kernel_rfl) (by kernel_rfl) (by kernel_rfl) g203 (ok119 N _ _ hy) rfl ?_
    refine nN K (tn 1) <| nE K (tn 3) ?_
    exact aro [.ren [0, 1, 5, 65536] [0]] ⟨(x136.set x138.toNat (x137, (y190, ((wr ((wr (x137 + (1 : Int))) + (1 : Int))), ((wr ((wr ((wr (x137 + (1 : Int))) + (1 : Int))) + (1 : Int))), ((wr ((wr ((wr ((wr (x137 + (1 : Int))) + (1 : Int))) + (1 : Int))) + (1 : Int))), (((Int.tmod (wr ((wr ((wr ((wr ((wr (x137 + (1 : Int))) + (1 : Int))) + (1 : Int))) + (1 : Int))) + (1 : Int))) (3 : Int)) == (0 : Int)), y202.1))))))), y202.2, (wr (x138 + (1 : Int))), rfl, h⟩
   refine VW.exit ?_
   exact arv [.ren [1, 65536] [0]] ⟨x137, x136, rfl, h⟩
 rintro s ⟨x101, x102, rfl, h⟩
 unfold F96_j0 at h
 refine nR K (tn 2) ?_
 replace h := Option.some.inj h
 subst h
 refine VW.ghl [.ren [4, 65536] [0]] (VW.ret ?_)
 exact ⟨[], by kernel_rfl, by kernel_rfl, by kernel_rfl⟩
def F58_j0 (N : Nat) (x77 : Int) (x78 : (List Z52)) : Option ((List Z52) × Int) :=
  some (x78, x77)
def F58_l0_b (N : Nat) (nx131 : (List Z52) → Int → Int → Option ((List Z52) × Int)) (x104 : (List Z52)) (x105 : Int) (x106 : Int) : Option ((List Z52) × Int) :=
  cond (decide (x106 < (x104.length : Int))) (gd (InR x106 x104.length) (gd (x106.toNat < x104.length) (gd (InR x106 (x104.set x106.toNat (x105, ((x104.getD x106.toNat (Ty.dflt Y52)).2.1, ((x104.getD x106.toNat (Ty.dflt Y52)).2.2.1, ((x104.getD x106.toNat (Ty.dflt Y52)).2.2.2.1, (x104.getD x106.toNat (Ty.dflt Y52)).2.2.2.2))))).length) (gd (x106.toNat < x104.length) (andO (F96 N ((x104.getD x106.toNat (Ty.dflt Y52)).2.1) (IntKind.i64.wrap (x105 + (1 : Int)))) fun y147 => gd (InR x106 (x104.set x106.toNat (x105, (y147.1, ((x104.getD x106.toNat (Ty.dflt Y52)).2.2.1, ((x104.getD x106.toNat (Ty.dflt Y52)).2.2.2.1, (x104.getD x106.toNat (Ty.dflt Y52)).2.2.2.2))))).length) (gd (x106.toNat < x104.length) (andO (F96 N ((x104.getD x106.toNat (Ty.dflt Y52)).2.2.1) y147.2) fun y150 => gd (InR x106 (x104.set x106.toNat (x105, (y147.1, (y150.1, ((x104.getD x106.toNat (Ty.dflt Y52)).2.2.2.1, (x104.getD x106.toNat (Ty.dflt Y52)).2.2.2.2))))).length) (gd (x106.toNat < (x104.set x106.toNat (x105, (y147.1, (y150.1, ((x104.getD x106.toNat (Ty.dflt Y52)).2.2.2.1, (x104.getD x106.toNat (Ty.dflt Y52)).2.2.2.2))))).length) (gd (InR x106 (x104.set x106.toNat (x105, (y147.1, (y150.1, (y150.2, (x104.getD x106.toNat (Ty.dflt Y52)).2.2.2.2))))).length) (gd (x106.toNat < (x104.set x106.toNat (x105, (y147.1, (y150.1, (y150.2, (x104.getD x106.toNat (Ty.dflt Y52)).2.2.2.2))))).length) (nx131 (x104.set x106.toNat (x105, (y147.1, (y150.1, (y150.2, (IntKind.i64.wrap (y150.2 + (1 : Int)))))))) (IntKind.i64.wrap ((IntKind.i64.wrap (y150.2 + (1 : Int))) + (1 : Int))) (IntKind.i64.wrap (x106 + (1 : Int)))))))))))))) (F58_j0 N x105 x104)
def F58_l0 (N : Nat) := loopF (F58_l0_b N) (fun _ _ _ => none)
theorem F58_l0_s N {k} (hk : 0 < k) x104 x105 x106 : F58_l0 N k x104 x105 x106 = F58_l0_b N (F58_l0 N (k - 1)) x104 x105 x106 := by cases k;cases hk;rfl
def F58 (N : Nat) (a0 : (List Z52)) (a1 : Int) : Option ((List Z52) × Int) :=
  F58_l0 N N a0 a1 (0 : Int)
theorem ok58 N a0 a1 {r} (h : F58 N a0 a1 = some r) : ConM prog 58 [ar 0 Y52 a0 .dp] [hh 0, I a1] [.lf (.v (.int .i64) r.2)] [ar 0 Y52 r.1 .dp] := by
 refine ⟨enters_of func58 rfl (by decide), HM.intro [.lf (.v (.int .i64))] K func58 rfl (Nat.le_of_ble_eq_true rfl) (Nat.le_of_ble_eq_true rfl) fun w0 E0 ht => ?_⟩
 unfold F58 at h
 show VW _ _ _ _ _ (retM _ _ _ _ _) _
 refine nR K (tn 1) ?_
 refine VW.join (fun s => ∃ x77 x78, s = ⟨[(1, I x77), (65536, hh 0)], [ar 0 Y52 x78 .dp]⟩ ∧ F58_j0 N x77 x78 = some r) ?_ ?_
 ·refine nR K (tn 1) <| VW.block <| lop (fun k s => ∃ x104 x105 x106, s = ⟨[(0, hh 0), (1, I x105), (5, I x106), (65536, hh 0)], [ar 0 Y52 x104 .dp]⟩ ∧ F58_l0 N k x104 x105 x106 = some r) N [.ren [0, 1, 5, 65536] [0]] ⟨a0, a1, (0 : Int), rfl, h⟩ ?_
  rintro k131 s ⟨x104, x105, x106, rfl, h⟩
  cases k131 with
  | zero => cases show none = some r from h
  | succ k131 =>
   replace h : F58_l0_b N (F58_l0 N k131) x104 x105 x106 = some r := h
   unfold F58_l0_b at h
   refine sq <| nR K (tn 4) ?_
   refine cnd h ?_ ?_<;>intro h
   ·refine VW.skip <| sq <| VW.block ?_
    obtain⟨g144,h⟩:=gS h
    obtain⟨g145,h⟩:=gS h
    refine nR K (pu 3 (an g144 (pu 1 (an g145 (tn 0))))) <| nR K (tn 3) <| sq <| VW.region ?_
    obtain⟨g146,h⟩:=gS h
    refine nG K 4 (pu 2 (an g146 (tn 1))) ?_
    obtain⟨g148,h⟩:=gS h
    obtain⟨y147,hy,h⟩:=aS h
    refine VO.lendInS (t := 38) (d1 := 23) (d2 := 24) (d3 := 25) (id := 0) (cur := 0) (i := x106.toNat) (j := 1) (v2 := I (wr (x105 + (1 : Int)))) (f := 96) (l := [I (wr (x105 + (1 : Int)))]) (e := Y52) (t' := Y64) (X := x104) (c := (x105, ((x104.getD x106.toNat D52).2.1, ((x104.getD x106.toNat D52).2.2.1, ((x104.getD x106.toNat D52).2.2.2.1, (x104.getD x106.toNat D52).2.2.2.2))))) (ys := ((x104.getD x106.toNat D52).2.1)) (ys' := y147.1) (x' := (x105, (y147.1, ((x104.getD x106.toNat D52).2.2.1, ((x104.getD x106.toNat D52).2.2.2.1, (x104.getD x106.toNat D52).2.2.2.2))))) (rs := [.lf (.v (.int .i64) y147.2)]) (v1 := 0) K (by kernel_rfl) (by kernel_rfl) (by kernel_rfl) (by kernel_rfl) (by kernel_rfl) g148 (ok96 N _ _ hy) rfl ?_
    refine nN K (tn 1) <| sq <| VW.region ?_
    obtain⟨g149,h⟩:=gS h
    refine nG K 4 (pu 2 (an g149 (tn 1))) ?_
    obtain⟨g151,h⟩:=gS h
    obtain⟨y150,hy,h⟩:=aS h
    refine VO.lendInS (t := 38) (d1 := 30) (d2 := 31) (d3 := 32) (id := 0) (cur := 0) (i := x106.toNat) (j := 2) (v2 := I y147.2) (f := 96) (l := [I y147.2]) (e := Y52) (t' := Y64) (X := x104) (c := (x105, (y147.1, ((x104.getD x106.toNat D52).2.2.1, ((x104.getD x106.toNat D52).2.2.2.1, (x104.getD x106.toNat D52).2.2.2.2))))) (ys := ((x104.getD x106.toNat D52).2.2.1)) (ys' := y150.1) (x' := (x105, (y147.1, (y150.1, ((x104.getD x106.toNat D52).2.2.2.1, (x104.getD x106.toNat D52).2.2.2.2))))) (rs := [.lf (.v (.int .i64) y150.2)]) (v1 := 0) K (by kernel_rfl) (by kernel_rfl) (by kernel_rfl) (by kernel_rfl) (by kernel_rfl) g151 (ok96 N _ _ hy) rfl ?_
    refine nN K (tn 1) <| sq <| VW.region ?_
    obtain⟨g152,h⟩:=gS h
    obtain⟨g153,h⟩:=gS h
    refine sG K 6 [0, 1, 5, 65536] [0] ⟨[(0, hh 0), (1, I y150.2), (5, I x106), (65536, hh 0)], [ar 0 Y52 ((x104.set x106.toNat (x105, (y147.1, (y150.1, ((x104.getD x106.toNat D52).2.2.2.1, (x104.getD x106.toNat D52).2.2.2.2))))).set x106.toNat (((x104.set x106.toNat (x105, (y147.1, (y150.1, ((x104.getD x106.toNat D52).2.2.2.1, (x104.getD x106.toNat D52).2.2.2.2))))).getD x106.toNat D52).1, (((x104.set x106.toNat (x105, (y147.1, (y150.1, ((x104.getD x106.toNat D52).2.2.2.1, (x104.getD x106.toNat D52).2.2.2.2))))).getD x106.toNat D52).2.1, (((x104.set x106.toNat (x105, (y147.1, (y150.1, ((x104.getD x106.toNat D52).2.2.2.1, (x104.getD x106.toNat D52).2.2.2.2))))).getD x106.toNat D52).2.2.1, (y150.2, ((x104.set x106.toNat (x105, (y147.1, (y150.1, ((x104.getD x106.toNat D52).2.2.2.1, (x104.getD x106.toNat D52).2.2.2.2))))).getD x106.toNat D52).2.2.2.2))))) .dp]⟩ (pu 3 (an g152 (pu 1 (an g153 (tn 0))))) ?_
    rw [show ((x104.set x106.toNat (x105, (y147.1, (y150.1, ((x104.getD x106.toNat D52).2.2.2.1, (x104.getD x106.toNat D52).2.2.2.2))))).set x106.toNat (((x104.set x106.toNat (x105, (y147.1, (y150.1, ((x104.getD x106.toNat D52).2.2.2.1, (x104.getD x106.toNat D52).2.2.2.2))))).getD x106.toNat D52).1, (((x104.set x106.toNat (x105, (y147.1, (y150.1, ((x104.getD x106.toNat D52).2.2.2.1, (x104.getD x106.toNat D52).2.2.2.2))))).getD x106.toNat D52).2.1, (((x104.set x106.toNat (x105, (y147.1, (y150.1, ((x104.getD x106.toNat D52).2.2.2.1, (x104.getD x106.toNat D52).2.2.2.2))))).getD x106.toNat D52).2.2.1, (y150.2, ((x104.set x106.toNat (x105, (y147.1, (y150.1, ((x104.getD x106.toNat D52).2.2.2.1, (x104.getD x106.toNat D52).2.2.2.2))))).getD x106.toNat D52).2.2.2.2))))) = (x104.set x106.toNat (x105, (y147.1, (y150.1, (y150.2, (x104.getD x106.toNat D52).2.2.2.2))))) from set_upd x104 x106.toNat (x105, (y147.1, (y150.1, ((x104.getD x106.toNat D52).2.2.2.1, (x104.getD x106.toNat D52).2.2.2.2)))) D52 (fun z => (z.1, (z.2.1, (z.2.2.1, (y150.2, z.2.2.2.2))))) (by first | (simp; done) | simpa using g153)]
    refine sN K [0, 1, 5, 65536] [0] ⟨[(0, hh 0), (1, I y150.2), (5, I x106), (65536, hh 0)], [ar 0 Y52 (x104.set x106.toNat (x105, (y147.1, (y150.1, (y150.2, (x104.getD x106.toNat D52).2.2.2.2))))) .dp]⟩ (tn 0) <| nR K (tn 3) <| sq <| VW.region ?_
    obtain⟨g154,h⟩:=gS h
    obtain⟨g155,h⟩:=gS h
    refine sG K 6 [0, 1, 5, 65536] [0] ⟨[(0, hh 0), (1, I (wr (y150.2 + (1 : Int)))), (5, I x106), (65536, hh 0)], [ar 0 Y52 ((x104.set x106.toNat (x105, (y147.1, (y150.1, (y150.2, (x104.getD x106.toNat D52).2.2.2.2))))).set x106.toNat (((x104.set x106.toNat (x105, (y147.1, (y150.1, (y150.2, (x104.getD x106.toNat D52).2.2.2.2))))).getD x106.toNat D52).1, (((x104.set x106.toNat (x105, (y147.1, (y150.1, (y150.2, (x104.getD x106.toNat D52).2.2.2.2))))).getD x106.toNat D52).2.1, (((x104.set x106.toNat (x105, (y147.1, (y150.1, (y150.2, (x104.getD x106.toNat D52).2.2.2.2))))).getD x106.toNat D52).2.2.1, (((x104.set x106.toNat (x105, (y147.1, (y150.1, (y150.2, (x104.getD x106.toNat D52).2.2.2.2))))).getD x106.toNat D52).2.2.2.1, (wr (y150.2 + (1 : Int)))))))) .dp]⟩ (pu 3 (an g154 (pu 1 (an g155 (tn 0))))) ?_
    rw [show ((x104.set x106.toNat (x105, (y147.1, (y150.1, (y150.2, (x104.getD x106.toNat D52).2.2.2.2))))).set x106.toNat (((x104.set x106.toNat (x105, (y147.1, (y150.1, (y150.2, (x104.getD x106.toNat D52).2.2.2.2))))).getD x106.toNat D52).1, (((x104.set x106.toNat (x105, (y147.1, (y150.1, (y150.2, (x104.getD x106.toNat D52).2.2.2.2))))).getD x106.toNat D52).2.1, (((x104.set x106.toNat (x105, (y147.1, (y150.1, (y150.2, (x104.getD x106.toNat D52).2.2.2.2))))).getD x106.toNat D52).2.2.1, (((x104.set x106.toNat (x105, (y147.1, (y150.1, (y150.2, (x104.getD x106.toNat D52).2.2.2.2))))).getD x106.toNat D52).2.2.2.1, (wr (y150.2 + (1 : Int)))))))) = (x104.set x106.toNat (x105, (y147.1, (y150.1, (y150.2, (wr (y150.2 + (1 : Int)))))))) from set_upd x104 x106.toNat (x105, (y147.1, (y150.1, (y150.2, (x104.getD x106.toNat D52).2.2.2.2)))) D52 (fun z => (z.1, (z.2.1, (z.2.2.1, (z.2.2.2.1, (wr (y150.2 + (1 : Int)))))))) (by first | (simp; done) | simpa using g155)]
    refine sN K [0, 1, 5, 65536] [0] ⟨[(0, hh 0), (1, I (wr (y150.2 + (1 : Int)))), (5, I x106), (65536, hh 0)], [ar 0 Y52 (x104.set x106.toNat (x105, (y147.1, (y150.1, (y150.2, (wr (y150.2 + (1 : Int)))))))) .dp]⟩ (tn 0) <| nE K (tn 3) <| nE K (tn 3) ?_
    exact aro [.ren [0, 1, 5, 65536] [0]] ⟨(x104.set x106.toNat (x105, (y147.1, (y150.1, (y150.2, (wr (y150.2 + (1 : Int)))))))), (wr ((wr (y150.2 + (1 : Int))) + (1 : Int))), (wr (x106 + (1 : Int))), rfl, h⟩
   refine VW.exit ?_
   exact arv [.ren [1, 65536] [0]] ⟨x105, x104, rfl, h⟩
 rintro s ⟨x77, x78, rfl, h⟩
 unfold F58_j0 at h
 refine nR K (tn 2) ?_
 replace h := Option.some.inj h
 subst h
 refine VW.ghl [.ren [4, 65536] [0]] (VW.ret ?_)
 exact ⟨[], by kernel_rfl, by kernel_rfl, by kernel_rfl⟩
def F20 (N : Nat) (a0 : Z24) (a1 : Int) : Option ((List Z75) × (List Z52) × Int) :=
  andO (F57 N a0.2.1 a1) fun y1 => andO (F58 N a0.2.2.1 y1.2) fun y2 => some (y1.1, y2.1, y2.2)
theorem ok20 N a0 a1 {r} (h : F20 N a0 a1 = some r) : ConM prog 20 [ar 0 Y75 a0.2.1 .dp, ar 0 Y52 a0.2.2.1 .dp] [.agg [zi a0.1, .hd 0 0 none, .hd 1 0 none, zi a0.2.2.2.1, zi a0.2.2.2.2.1, zi a0.2.2.2.2.2.1, zi a0.2.2.2.2.2.2.1, zi a0.2.2.2.2.2.2.2.1, zi a0.2.2.2.2.2.2.2.2], I a1] [.lf (.v (.int .i64) r.2.2)] [ar 0 Y75 r.1 .dp, ar 0 Y52 r.2.1 .dp] := by
 refine ⟨enters_of func20 rfl (by decide), HM.intro [.lf (.v (.int .i64))] K func20 rfl (Nat.le_of_ble_eq_true rfl) (Nat.le_of_ble_eq_true rfl) fun w0 E0 ht => ?_⟩
 unfold F20 at h
 show VW _ _ _ _ _ (retM _ _ _ _ _) _
 refine nR K (tn 2) <| sq <| VW.region <| nG K 3 (tn 3) ?_
 obtain⟨y1,hy,h⟩:=aS h
 refine VO.callM [0] [.t (.sl Y75), .t (.int .i64)] (d := some 8) (by kernel_rfl) (by kernel_rfl) (ok57 N _ _ hy) (by kernel_rfl) <| nN K (tn 1) <| sq <| VW.region <| nG K 3 (tn 3) ?_
 obtain⟨y2,hy,h⟩:=aS h
 refine VO.callM [1] [.t (.sl Y52), .t (.int .i64)] (d := some 12) (by kernel_rfl) (by kernel_rfl) (ok58 N _ _ hy) (by kernel_rfl) <| nN K (tn 1) <| nR K (tn 2) ?_
 replace h := Option.some.inj h
 subst h
 refine VW.ghl [.ren [4, 65536, 65537] [0, 1]] (VW.ret ?_)
 exact ⟨[], by kernel_rfl, by kernel_rfl, by kernel_rfl⟩
def F59_j0 (N : Nat) (x40 : Int) : Option (Int) :=
  some x40
def F59_l0_b (N : Nat) (a0 : (List Z75)) (nx68 : Int → Int → Option (Int)) (x54 : Int) (x55 : Int) : Option (Int) :=
  cond (decide (x55 < (a0.length : Int))) (gd (InR x55 a0.length) (andO (F95 N x54) fun y78 => cond (!(((a0.getD x55.toNat (Ty.dflt Y75)).1).toList == y78.toList)) (some (-1 : Int)) (gd (InR x55 a0.length) (cond (((a0.getD x55.toNat (Ty.dflt Y75)).2) != (IntKind.i64.wrap (x54 + (1 : Int)))) (some (-1 : Int)) (nx68 (IntKind.i64.wrap ((IntKind.i64.wrap (x54 + (1 : Int))) + (1 : Int))) (IntKind.i64.wrap (x55 + (1 : Int)))))))) (F59_j0 N x54)
def F59_l0 (N : Nat) (a0 : (List Z75)) := loopF (F59_l0_b N a0) (fun _ _ => none)
theorem F59_l0_s N a0 {k} (hk : 0 < k) x54 x55 : F59_l0 N a0 k x54 x55 = F59_l0_b N a0 (F59_l0 N a0 (k - 1)) x54 x55 := by cases k;cases hk;rfl
def F59 (N : Nat) (a0 : (List Z75)) (a1 : Int) : Option (Int) :=
  F59_l0 N a0 N a1 (0 : Int)
theorem ok59 N a0 a1 {r} (h : F59 N a0 a1 = some r) : Con prog 59 [Vv (.sl Y75) a0, I a1] [.lf (.v (.int .i64) r)] := by
 refine ctr [.lf (.v (.int .i64))] K func59 rfl fun w0 E0 ht => ?_
 unfold F59 at h
 show VW _ _ _ _ _ (retQ _ _ _ _) _
 refine nR K (tn 1) ?_
 refine VW.join (fun s => ∃ x40, s = ⟨[(1, I x40)], []⟩ ∧ F59_j0 N x40 = some r) ?_ ?_
 ·refine nR K (tn 1) <| VW.block <| lop (fun k s => ∃ x54 x55, s = ⟨[(0, Vv (.sl Y75) a0), (1, I x54), (5, I x55)], []⟩ ∧ F59_l0 N a0 k x54 x55 = some r) N [.ren [0, 1, 5] []] ⟨a1, (0 : Int), rfl, h⟩ ?_
  rintro k68 s ⟨x54, x55, rfl, h⟩
  cases k68 with
  | zero => cases show none = some r from h
  | succ k68 =>
   replace h : F59_l0_b N a0 (F59_l0 N a0 k68) x54 x55 = some r := h
   unfold F59_l0_b at h
   refine sq <| nR K (tn 4) ?_
   refine cnd h ?_ ?_<;>intro h
   ·refine VW.skip <| sq <| VW.block <| sq <| sq ?_
    obtain⟨g77,h⟩:=gS h
    obtain⟨y78,hy78,h⟩:=aS h
    refine dr K [(6, .cl [] (some 18) [.lf (.v .str y78)])] [(6, 0)] [] [0, 1, 5, 19] [] (pu 2 (an g77 (tn 5))) ⟨qC false [.t (.int .i64)] [] [] (some 18) K (ok95 N _ hy78), trivial⟩ ?_
    refine cnd h ?_ ?_<;>intro h
    ·refine nR K (tn 1) ?_
     cases h; exact VW.ret (rt [])
    refine VW.skip <| nR K (tn 3) <| sq ?_
    obtain⟨g80,h⟩:=gS h
    refine nR K (pu 2 (an g80 (tn 4))) ?_
    refine cnd h ?_ ?_<;>intro h
    ·refine nR K (tn 1) ?_
     cases h; exact VW.ret (rt [])
    refine VW.skip <| nE K (tn 3) <| nE K (tn 3) ?_
    exact aro [.ren [0, 1, 5] []] ⟨(wr ((wr (x54 + (1 : Int))) + (1 : Int))), (wr (x55 + (1 : Int))), rfl, h⟩
   refine VW.exit ?_
   exact arv [.ren [1] []] ⟨x54, rfl, h⟩
 rintro s ⟨x40, rfl, h⟩
 unfold F59_j0 at h
 refine nR K (tn 2) ?_
 cases h; exact VW.ret (rt [])
def F120_j0 (N : Nat) (x16 : Int) : Option (Int) :=
  some x16
def F120_l0_b (N : Nat) (a0 : (List Int)) (nx28 : Int → Int → Option (Int)) (x22 : Int) (x23 : Int) : Option (Int) :=
  cond (decide (x23 < (a0.length : Int))) (gd (InR x23 a0.length) (cond ((a0.getD x23.toNat (Ty.dflt (.int .i64))) != x22) (some (-1 : Int)) (nx28 (IntKind.i64.wrap (x22 + (1 : Int))) (IntKind.i64.wrap (x23 + (1 : Int)))))) (F120_j0 N x22)
def F120_l0 (N : Nat) (a0 : (List Int)) := loopF (F120_l0_b N a0) (fun _ _ => none)
theorem F120_l0_s N a0 {k} (hk : 0 < k) x22 x23 : F120_l0 N a0 k x22 x23 = F120_l0_b N a0 (F120_l0 N a0 (k - 1)) x22 x23 := by cases k;cases hk;rfl
def F120 (N : Nat) (a0 : (List Int)) (a1 : Int) : Option (Int) :=
  F120_l0 N a0 N a1 (0 : Int)
theorem ok120 N a0 a1 {r} (h : F120 N a0 a1 = some r) : Con prog 120 [Vv (.sl (.int .i64)) a0, I a1] [.lf (.v (.int .i64) r)] := by
 refine ctr [.lf (.v (.int .i64))] K func120 rfl fun w0 E0 ht => ?_
 unfold F120 at h
 show VW _ _ _ _ _ (retQ _ _ _ _) _
 refine nR K (tn 1) ?_
 refine VW.join (fun s => ∃ x16, s = ⟨[(1, I x16)], []⟩ ∧ F120_j0 N x16 = some r) ?_ ?_
 ·refine nR K (tn 1) <| VW.block <| lop (fun k s => ∃ x22 x23, s = ⟨[(0, Vv (.sl (.int .i64)) a0), (1, I x22), (5, I x23)], []⟩ ∧ F120_l0 N a0 k x22 x23 = some r) N [.ren [0, 1, 5] []] ⟨a1, (0 : Int), rfl, h⟩ ?_
  rintro k28 s ⟨x22, x23, rfl, h⟩
  cases k28 with
  | zero => cases show none = some r from h
  | succ k28 =>
   replace h : F120_l0_b N a0 (F120_l0 N a0 k28) x22 x23 = some r := h
   unfold F120_l0_b at h
   refine sq <| nR K (tn 4) ?_
   refine cnd h ?_ ?_<;>intro h
   ·refine VW.skip <| sq <| VW.block <| sq ?_
    obtain⟨g32,h⟩:=gS h
    refine nR K (pu 2 (an g32 (tn 3))) ?_
    refine cnd h ?_ ?_<;>intro h
    ·refine nR K (tn 1) ?_
     cases h; exact VW.ret (rt [])
    refine VW.skip <| nE K (tn 3) <| nE K (tn 3) ?_
    exact aro [.ren [0, 1, 5] []] ⟨(wr (x22 + (1 : Int))), (wr (x23 + (1 : Int))), rfl, h⟩
   refine VW.exit ?_
   exact arv [.ren [1] []] ⟨x22, rfl, h⟩
 rintro s ⟨x16, rfl, h⟩
 unfold F120_j0 at h
 refine nR K (tn 2) ?_
 cases h; exact VW.ret (rt [])
def F97_j0 (N : Nat) (x100 : Int) : Option (Int) :=
  some x100
def F97_l0_b (N : Nat) (a0 : (List Z64)) (nx168 : Int → Int → Option (Int)) (x134 : Int) (x135 : Int) : Option (Int) :=
  cond (decide (x135 < (a0.length : Int))) (gd (InR x135 a0.length) (cond (((a0.getD x135.toNat (Ty.dflt Y64)).1) != x134) (some (-1 : Int)) (gd (InR x135 a0.length) (andO (F95 N (IntKind.i64.wrap (x134 + (1 : Int)))) fun y190 => cond (!(((a0.getD x135.toNat (Ty.dflt Y64)).2.1).toList == y190.toList)) (some (-1 : Int)) (gd (InR x135 a0.length) (cond (((a0.getD x135.toNat (Ty.dflt Y64)).2.2.1) != (IntKind.i64.wrap ((IntKind.i64.wrap (x134 + (1 : Int))) + (1 : Int)))) (some (-1 : Int)) (gd (InR x135 a0.length) (cond (((a0.getD x135.toNat (Ty.dflt Y64)).2.2.2.1) != (IntKind.i64.wrap ((IntKind.i64.wrap ((IntKind.i64.wrap (x134 + (1 : Int))) + (1 : Int))) + (1 : Int)))) (some (-1 : Int)) (gd (InR x135 a0.length) (cond (((a0.getD x135.toNat (Ty.dflt Y64)).2.2.2.2.1) != (IntKind.i64.wrap ((IntKind.i64.wrap ((IntKind.i64.wrap ((IntKind.i64.wrap (x134 + (1 : Int))) + (1 : Int))) + (1 : Int))) + (1 : Int)))) (some (-1 : Int)) (gd (InR x135 a0.length) (cond (!(((a0.getD x135.toNat (Ty.dflt Y64)).2.2.2.2.2.1) == ((Int.tmod (IntKind.i64.wrap ((IntKind.i64.wrap ((IntKind.i64.wrap ((IntKind.i64.wrap ((IntKind.i64.wrap (x134 + (1 : Int))) + (1 : Int))) + (1 : Int))) + (1 : Int))) + (1 : Int))) (3 : Int)) == (0 : Int)))) (some (-1 : Int)) (gd (InR x135 a0.length) (andO (F120 N ((a0.getD x135.toNat (Ty.dflt Y64)).2.2.2.2.2.2) (IntKind.i64.wrap ((IntKind.i64.wrap ((IntKind.i64.wrap ((IntKind.i64.wrap ((IntKind.i64.wrap ((IntKind.i64.wrap (x134 + (1 : Int))) + (1 : Int))) + (1 : Int))) + (1 : Int))) + (1 : Int))) + (1 : Int)))) fun y200 => cond (decide (y200 < (0 : Int))) (some (-1 : Int)) (nx168 y200 (IntKind.i64.wrap (x135 + (1 : Int)))))))))))))))))) (F97_j0 N x134)
def F97_l0 (N : Nat) (a0 : (List Z64)) := loopF (F97_l0_b N a0) (fun _ _ => none)
theorem F97_l0_s N a0 {k} (hk : 0 < k) x134 x135 : F97_l0 N a0 k x134 x135 = F97_l0_b N a0 (F97_l0 N a0 (k - 1)) x134 x135 := by cases k;cases hk;rfl
def F97 (N : Nat) (a0 : (List Z64)) (a1 : Int) : Option (Int) :=
  F97_l0 N a0 N a1 (0 : Int)
theorem ok97 N a0 a1 {r} (h : F97 N a0 a1 = some r) : Con prog 97 [Vv (.sl Y64) a0, I a1] [.lf (.v (.int .i64) r)] := by
 refine ctr [.lf (.v (.int .i64))] K func97 rfl fun w0 E0 ht => ?_
 unfold F97 at h
 show VW _ _ _ _ _ (retQ _ _ _ _) _
 refine nR K (tn 1) ?_
 refine VW.join (fun s => ∃ x100, s = ⟨[(1, I x100)], []⟩ ∧ F97_j0 N x100 = some r) ?_ ?_
 ·refine nR K (tn 1) <| VW.block <| lop (fun k s => ∃ x134 x135, s = ⟨[(0, Vv (.sl Y64) a0), (1, I x134), (5, I x135)], []⟩ ∧ F97_l0 N a0 k x134 x135 = some r) N [.ren [0, 1, 5] []] ⟨a1, (0 : Int), rfl, h⟩ ?_
  rintro k168 s ⟨x134, x135, rfl, h⟩
  cases k168 with
  | zero => cases show none = some r from h
  | succ k168 =>
   replace h : F97_l0_b N a0 (F97_l0 N a0 k168) x134 x135 = some r := h
   unfold F97_l0_b at h
   refine sq <| nR K (tn 4) ?_
   refine cnd h ?_ ?_<;>intro h
   ·refine VW.skip <| sq <| VW.block <| sq ?_
    obtain⟨g186,h⟩:=gS h
    refine nR K (pu 2 (an g186 (tn 4))) ?_
    refine cnd h ?_ ?_<;>intro h
    ·refine nR K (tn 1) ?_
     cases h; exact VW.ret (rt [])
    refine VW.skip <| nR K (tn 3) <| sq <| sq ?_
    obtain⟨g189,h⟩:=gS h
    obtain⟨y190,hy190,h⟩:=aS h
    refine dr K [(6, .cl [] (some 27) [.lf (.v .str y190)])] [(6, 0)] [] [0, 1, 5, 28] [] (pu 2 (an g189 (tn 5))) ⟨qC false [.t (.int .i64)] [] [] (some 27) K (ok95 N _ hy190), trivial⟩ ?_
    refine cnd h ?_ ?_<;>intro h
    ·refine nR K (tn 1) ?_
     cases h; exact VW.ret (rt [])
    refine VW.skip <| nR K (tn 3) <| sq ?_
    obtain⟨g192,h⟩:=gS h
    refine nR K (pu 2 (an g192 (tn 4))) ?_
    refine cnd h ?_ ?_<;>intro h
    ·refine nR K (tn 1) ?_
     cases h; exact VW.ret (rt [])
    refine VW.skip <| nR K (tn 3) <| sq ?_
    obtain⟨g194,h⟩:=gS h
    refine nR K (pu 2 (an g194 (tn 4))) ?_
    refine cnd h ?_ ?_<;>intro h
    ·refine nR K (tn 1) ?_
     cases h; exact VW.ret (rt [])
    refine VW.skip <| nR K (tn 3) <| sq ?_
    obtain⟨g196,h⟩:=gS h
    refine nR K (pu 2 (an g196 (tn 4))) ?_
    refine cnd h ?_ ?_<;>intro h
    ·refine nR K (tn 1) ?_
     cases h; exact VW.ret (rt [])
    refine VW.skip <| nR K (tn 3) <| sq ?_
    obtain⟨g198,h⟩:=gS h
    refine nR K (pu 2 (an g198 (pu 3 (an (show ((3 : Int) ≠ 0) from by decide) (tn 2))))) ?_
    refine cnd h ?_ ?_<;>intro h
    ·refine sR K [4] [] ⟨[(4, I (-1 : Int))], []⟩ (tn 1) ?_
     cases h; exact VW.ret (rt [])
    refine VW.skip <| sR K [0, 1, 5] [] ⟨[(0, Vv (.sl Y64) a0), (1, I (wr ((wr ((wr ((wr ((wr ((wr (x134 + (1 : Int))) + (1 : Int))) + (1 : Int))) + (1 : Int))) + (1 : Int))) + (1 : Int)))), (5, I x135)], []⟩ (tn 3) <| sq <| VW.region ?_
    obtain⟨g199,h⟩:=gS h
    refine nG K 6 (pu 2 (an g199 (tn 3))) ?_
    obtain⟨y200,hy,h⟩:=aS h
    refine clc false [.t (.sl (.int .i64)), .t (.int .i64)] [] (some 75) K (ok120 N _ _ hy) <| nN K (tn 1) <| nR K (tn 2) ?_
    refine cnd h ?_ ?_<;>intro h
    ·refine nR K (tn 1) ?_
     cases h; exact VW.ret (rt [])
    refine VW.skip <| nE K (tn 3) ?_
    exact aro [.ren [0, 1, 5] []] ⟨y200, (wr (x135 + (1 : Int))), rfl, h⟩
   refine VW.exit ?_
   exact arv [.ren [1] []] ⟨x134, rfl, h⟩
 rintro s ⟨x100, rfl, h⟩
 unfold F97_j0 at h
 refine nR K (tn 2) ?_
 cases h; exact VW.ret (rt [])
def F60_j0 (N : Nat) (x64 : Int) : Option (Int) :=
  some x64
def F60_l0_b (N : Nat) (a0 : (List Z52)) (nx108 : Int → Int → Option (Int)) (x86 : Int) (x87 : Int) : Option (Int) :=
  cond (decide (x87 < (a0.length : Int))) (gd (InR x87 a0.length) (cond (((a0.getD x87.toNat (Ty.dflt Y52)).1) != x86) (some (-1 : Int)) (gd (InR x87 a0.length) (andO (F97 N ((a0.getD x87.toNat (Ty.dflt Y52)).2.1) (IntKind.i64.wrap (x86 + (1 : Int)))) fun y122 => cond (decide (y122 < (0 : Int))) (some (-1 : Int)) (gd (InR x87 a0.length) (andO (F97 N ((a0.getD x87.toNat (Ty.dflt Y52)).2.2.1) y122) fun y124 => cond (decide (y124 < (0 : Int))) (some (-1 : Int)) (gd (InR x87 a0.length) (cond (((a0.getD x87.toNat (Ty.dflt Y52)).2.2.2.1) != y124) (some (-1 : Int)) (gd (InR x87 a0.length) (cond (((a0.getD x87.toNat (Ty.dflt Y52)).2.2.2.2) != (IntKind.i64.wrap (y124 + (1 : Int)))) (some (-1 : Int)) (nx108 (IntKind.i64.wrap ((IntKind.i64.wrap (y124 + (1 : Int))) + (1 : Int))) (IntKind.i64.wrap (x87 + (1 : Int)))))))))))))) (F60_j0 N x86)
def F60_l0 (N : Nat) (a0 : (List Z52)) := loopF (F60_l0_b N a0) (fun _ _ => none)
theorem F60_l0_s N a0 {k} (hk : 0 < k) x86 x87 : F60_l0 N a0 k x86 x87 = F60_l0_b N a0 (F60_l0 N a0 (k - 1)) x86 x87 := by cases k;cases hk;rfl
def F60 (N : Nat) (a0 : (List Z52)) (a1 : Int) : Option (Int) :=
  F60_l0 N a0 N a1 (0 : Int)
theorem ok60 N a0 a1 {r} (h : F60 N a0 a1 = some r) : Con prog 60 [Vv (.sl Y52) a0, I a1] [.lf (.v (.int .i64) r)] := by
 refine ctr [.lf (.v (.int .i64))] K func60 rfl fun w0 E0 ht => ?_
 unfold F60 at h
 show VW _ _ _ _ _ (retQ _ _ _ _) _
 refine nR K (tn 1) ?_
 refine VW.join (fun s => ∃ x64, s = ⟨[(1, I x64)], []⟩ ∧ F60_j0 N x64 = some r) ?_ ?_
 ·refine nR K (tn 1) <| VW.block <| lop (fun k s => ∃ x86 x87, s = ⟨[(0, Vv (.sl Y52) a0), (1, I x86), (5, I x87)], []⟩ ∧ F60_l0 N a0 k x86 x87 = some r) N [.ren [0, 1, 5] []] ⟨a1, (0 : Int), rfl, h⟩ ?_
  rintro k108 s ⟨x86, x87, rfl, h⟩
  cases k108 with
  | zero => cases show none = some r from h
  | succ k108 =>
   replace h : F60_l0_b N a0 (F60_l0 N a0 k108) x86 x87 = some r := h
   unfold F60_l0_b at h
   refine sq <| nR K (tn 4) ?_
   refine cnd h ?_ ?_<;>intro h
   ·refine VW.skip <| sq <| VW.block <| sq ?_
    obtain⟨g120,h⟩:=gS h
    refine nR K (pu 2 (an g120 (tn 4))) ?_
    refine cnd h ?_ ?_<;>intro h
    ·refine nR K (tn 1) ?_
     cases h; exact VW.ret (rt [])
    refine VW.skip <| nR K (tn 3) <| sq <| VW.region ?_
    obtain⟨g121,h⟩:=gS h
    refine nG K 6 (pu 2 (an g121 (tn 3))) ?_
    obtain⟨y122,hy,h⟩:=aS h
    refine clc false [.t (.sl Y64), .t (.int .i64)] [] (some 27) K (ok97 N _ _ hy) <| nN K (tn 1) <| sq <| nR K (tn 2) ?_
    refine cnd h ?_ ?_<;>intro h
    ·refine nR K (tn 1) ?_
     cases h; exact VW.ret (rt [])
    refine VW.skip <| sq <| VW.region ?_
    obtain⟨g123,h⟩:=gS h
    refine nG K 6 (pu 2 (an g123 (tn 3))) ?_
    obtain⟨y124,hy,h⟩:=aS h
    refine clc false [.t (.sl Y64), .t (.int .i64)] [] (some 36) K (ok97 N _ _ hy) <| nN K (tn 1) <| sq <| nR K (tn 2) ?_
    refine cnd h ?_ ?_<;>intro h
    ·refine nR K (tn 1) ?_
     cases h; exact VW.ret (rt [])
    refine VW.skip <| sq ?_
    obtain⟨g126,h⟩:=gS h
    refine nR K (pu 2 (an g126 (tn 4))) ?_
    refine cnd h ?_ ?_<;>intro h
    ·refine nR K (tn 1) ?_
     cases h; exact VW.ret (rt [])
    refine VW.skip <| nR K (tn 3) <| sq ?_
    obtain⟨g128,h⟩:=gS h
    refine nR K (pu 2 (an g128 (tn 4))) ?_
    refine cnd h ?_ ?_<;>intro h
    ·refine sR K [4] [] ⟨[(4, I (-1 : Int))], []⟩ (tn 1) ?_
     cases h; exact VW.ret (rt [])
    refine VW.skip <| rR K [0, 1, 5] [] ⟨[(0, Vv (.sl Y52) a0), (1, I (wr ((wr (y124 + (1 : Int))) + (1 : Int)))), (5, I x87)], []⟩ (tn 3) <| nE K (tn 3) ?_
    exact aro [.ren [0, 1, 5] []] ⟨(wr ((wr (y124 + (1 : Int))) + (1 : Int))), (wr (x87 + (1 : Int))), rfl, h⟩
   refine VW.exit ?_
   exact arv [.ren [1] []] ⟨x86, rfl, h⟩
 rintro s ⟨x64, rfl, h⟩
 unfold F60_j0 at h
 refine nR K (tn 2) ?_
 cases h; exact VW.ret (rt [])
def F21 (N : Nat) (a0 : Z24) (a1 : Int) : Option (Int) :=
  andO (F59 N a0.2.1 a1) fun y1 => cond (decide (y1 < (0 : Int))) (some (-1 : Int)) (andO (F60 N a0.2.2.1 y1) fun y2 => cond (decide (y2 < (0 : Int))) (some (-1 : Int)) (some y2))
theorem ok21 N a0 a1 {r} (h : F21 N a0 a1 = some r) : Con prog 21 [.agg (lv Y24 a0), I a1] [.lf (.v (.int .i64) r)] := by
 refine ctr [.lf (.v (.int .i64))] K func21 rfl fun w0 E0 ht => ?_
 unfold F21 at h
 show VW _ _ _ _ _ (retQ _ _ _ _) _
 refine nR K (tn 2) <| sq <| VW.region <| nG K 3 (tn 3) ?_
 obtain⟨y1,hy,h⟩:=aS h
 refine clc false [.t (.sl Y75), .t (.int .i64)] [] (some 8) K (ok59 N _ _ hy) <| nN K (tn 1) <| sq <| nR K (tn 2) ?_
 refine cnd h ?_ ?_<;>intro h
 ·refine nR K (tn 1) ?_
  cases h; exact VW.ret (rt [])
 refine VW.skip <| sq <| VW.region <| nG K 3 (tn 3) ?_
 obtain⟨y2,hy,h⟩:=aS h
 refine clc false [.t (.sl Y52), .t (.int .i64)] [] (some 14) K (ok60 N _ _ hy) <| nN K (tn 1) <| sq <| nR K (tn 2) ?_
 refine cnd h ?_ ?_<;>intro h
 ·refine nR K (tn 1) ?_
  cases h; exact VW.ret (rt [])
 refine VW.skip <| nR K (tn 2) ?_
 cases h; exact VW.ret (rt [])
def F22 (N : Nat) (a0 : Z24) : Option (Z24 × Bool) :=
  andO (F55 N a0) fun y1 => andO (F9 N a0) fun y3 => cond (!y3) (some (y1, false)) (cond (a0.2.2.2.2.1 == (1000 : Int)) (some (y1, false)) (some ((y1.1, (y1.2.1, (y1.2.2.1, (y1.2.2.2.1, ((IntKind.i64.wrap (a0.2.2.2.2.1 + (1 : Int))), (y1.2.2.2.2.2.1, (y1.2.2.2.2.2.2.1, (y1.2.2.2.2.2.2.2.1, y1.2.2.2.2.2.2.2.2)))))))), true)))
theorem ok22 N a0 {r} (h : F22 N a0 = some r) : Con prog 22 [.agg (lv Y24 a0)] [.agg [.v (.int .i64) r.1.1, .own Y75 r.1.2.1 .dp, .own Y52 r.1.2.2.1 .tp, .v (.int .i64) r.1.2.2.2.1, .v (.int .i64) r.1.2.2.2.2.1, .v (.int .i64) r.1.2.2.2.2.2.1, .v (.int .i64) r.1.2.2.2.2.2.2.1, .v (.int .i64) r.1.2.2.2.2.2.2.2.1, .v (.int .i64) r.1.2.2.2.2.2.2.2.2], .lf (.v .bool r.2)] := by
 refine ctr [.agg [.v (.int .i64), .own Y75 .dp, .own Y52 .tp, .v (.int .i64), .v (.int .i64), .v (.int .i64), .v (.int .i64), .v (.int .i64), .v (.int .i64)], .lf (.v .bool)] K func22 rfl fun w0 E0 ht => ?_
 unfold F22 at h
 show VW _ _ _ _ _ (retQ _ _ _ _) _
 refine nR K (tn 3) <| sq <| VW.region <| nG K 1 (tn 1) ?_
 obtain⟨y1,hy,h⟩:=aS h
 refine clc false [.t Y24] [] (some 6) K (ok55 N _ hy) <| nN K (tn 2) <| sq <| sq <| VW.region <| nG K 1 (tn 1) ?_
 obtain⟨y3,hy,h⟩:=aS h
 refine clc false [.t Y24] [] (some 8) K (ok9 N _ hy) <| nG K 2 (tn 2) ?_
 refine spC 10 h ?_ ?_<;>intro h
 ·refine nN K (tn 4) ?_
  refine VW.cond (b := true) (by kernel_rfl) (fun _ => ?_) (fun h' => nomatch h')
  refine nR K (tn 3) ?_
  cases h; exact VW.ret (rt [some 2, some 3])
 refine nN K (tn 4) ?_
 refine cnd h ?_ ?_<;>intro h
 ·refine nR K (tn 3) ?_
  cases h; exact VW.ret (rt [some 2, some 3])
 refine VW.skip <| nR K (tn 5) <| nR K (tn 3) ?_
 cases h; exact VW.ret (rt [some 2, some 3])
def F23 (N : Nat) (a0 : Z24) : Option (Z24 × Bool) :=
  andO (F56 N a0) fun y1 => andO (F11 N a0) fun y3 => cond (!y3) (some (y1, false)) (cond (a0.2.2.2.2.1 == (1000 : Int)) (some (y1, false)) (some ((y1.1, (y1.2.1, (y1.2.2.1, (y1.2.2.2.1, ((IntKind.i64.wrap (y1.2.2.2.2.1 + (1 : Int))), (y1.2.2.2.2.2.1, (y1.2.2.2.2.2.2.1, (y1.2.2.2.2.2.2.2.1, y1.2.2.2.2.2.2.2.2)))))))), true)))
theorem ok23 N a0 {r} (h : F23 N a0 = some r) : Con prog 23 [.agg (lv Y24 a0)] [.agg [.v (.int .i64) r.1.1, .own Y75 r.1.2.1 .dp, .own Y52 r.1.2.2.1 .dp, .v (.int .i64) r.1.2.2.2.1, .v (.int .i64) r.1.2.2.2.2.1, .v (.int .i64) r.1.2.2.2.2.2.1, .v (.int .i64) r.1.2.2.2.2.2.2.1, .v (.int .i64) r.1.2.2.2.2.2.2.2.1, .v (.int .i64) r.1.2.2.2.2.2.2.2.2], .lf (.v .bool r.2)] := by
 refine ctr [.agg [.v (.int .i64), .own Y75 .dp, .own Y52 .dp, .v (.int .i64), .v (.int .i64), .v (.int .i64), .v (.int .i64), .v (.int .i64), .v (.int .i64)], .lf (.v .bool)] K func23 rfl fun w0 E0 ht => ?_
 unfold F23 at h
 show VW _ _ _ _ _ (retQ _ _ _ _) _
 refine nR K (tn 3) <| sq <| VW.region <| nG K 1 (tn 1) ?_
 obtain⟨y1,hy,h⟩:=aS h
 refine clc false [.t Y24] [] (some 6) K (ok56 N _ hy) <| nN K (tn 2) <| sq <| sq <| VW.region <| nG K 1 (tn 1) ?_
 obtain⟨y3,hy,h⟩:=aS h
 refine clc false [.t Y24] [] (some 8) K (ok11 N _ hy) <| nG K 2 (tn 2) ?_
 refine spC 10 h ?_ ?_<;>intro h
 ·refine nN K (tn 4) ?_
  refine VW.cond (b := true) (by kernel_rfl) (fun _ => ?_) (fun h' => nomatch h')
  refine nR K (tn 3) ?_
  cases h; exact VW.ret (rt [some 2, some 3])
 refine nN K (tn 4) ?_
 refine cnd h ?_ ?_<;>intro h
 ·refine nR K (tn 3) ?_
  cases h; exact VW.ret (rt [some 2, some 3])
 refine VW.skip <| nR K (tn 5) <| nR K (tn 3) ?_
 cases h; exact VW.ret (rt [some 2, some 3])
def F6 (N : Nat) (a0 : Z24) : Option (Bool) :=
  andO (F8 N a0 (1048576 : Int)) fun y1 => cond (decide (y1 < (0 : Int))) (some true) (andO (F10 N a0) fun y2 => andO (F22 N y2) fun y3 => andO (F10 N a0) fun y4 => andO (F23 N y4) fun y5 => andO (F12 N y5.1 y3.1) fun y7 => cond (!y7) (some false) (cond (!(y5.2 == y3.2)) (some false) (andO (F10 N a0) fun y10 => andO (F12 N y4 y10) fun y11 => cond (!y11) (some false) (andO (F20 N y4 (1 : Int)) fun y12 => cond (decide (y12.2.2 < (0 : Int))) (some false) (andO (F12 N y5.1 y3.1) fun y14 => cond (!y14) (some false) (cond (!(y5.2 == y3.2)) (some false) (andO (F20 N y5.1 (1 : Int)) fun y15 => andO (F21 N (y5.1.1, (y15.1, (y15.2.1, (y5.1.2.2.2.1, (y5.1.2.2.2.2.1, (y5.1.2.2.2.2.2.1, (y5.1.2.2.2.2.2.2.1, (y5.1.2.2.2.2.2.2.2.1, y5.1.2.2.2.2.2.2.2.2)))))))) (1 : Int)) fun y16 => cond (decide (y16 < (0 : Int))) (some false) (cond (y16 != y15.2.2) (some false) (andO (F10 N a0) fun y17 => andO (F23 N y17) fun y18 => andO (F12 N y18.1 y3.1) fun y20 => cond (!y20) (some false) (cond (!(y18.2 == y3.2)) (some false) (andO (F21 N (y5.1.1, (y15.1, (y15.2.1, (y5.1.2.2.2.1, (y5.1.2.2.2.2.1, (y5.1.2.2.2.2.2.1, (y5.1.2.2.2.2.2.2.1, (y5.1.2.2.2.2.2.2.2.1, y5.1.2.2.2.2.2.2.2.2)))))))) (1 : Int)) fun y21 => cond (decide (y21 < (0 : Int))) (some false) (cond (y21 != y15.2.2) (some false) (some true)))))))))))))
theorem ok6 N a0 {r} (h : F6 N a0 = some r) : Con prog 6 [.agg (lv Y24 a0)] [.lf (.v .bool r)] := by
 refine ctr [.lf (.v .bool)] K func6 rfl fun w0 E0 ht => ?_
 unfold F6 at h
 show VW _ _ _ _ _ (retQ _ _ _ _) _
 refine nR K (tn 2) <| nR K (tn 1) <| sq <| VW.region <| nG K 2 (tn 2) ?_
 obtain⟨y1,hy,h⟩:=aS h
 refine clc false [.t Y24, .t (.int .i64)] [] (some 16) K (ok8 N _ _ hy) <| nN K (tn 1) <| sq <| nR K (tn 2) ?_
 refine cnd h ?_ ?_<;>intro h
 ·refine nR K (tn 1) ?_
  cases h; exact VW.ret (rt [])
 refine VW.skip <| sq <| VW.region <| nG K 1 (tn 1) ?_
 obtain⟨y2,hy,h⟩:=aS h
 refine clc false [.t Y24] [] (some 21) K (ok10 N _ hy) ?_
 obtain⟨y3,hy,h⟩:=aS h
 refine VO.ghl [.frz 1, .frz 2] <| clc false [.t Y24] [] (some 22) K (ok22 N _ hy) <| nN K (tn 6) <| sq <| VW.region <| nG K 1 (tn 1) ?_
 obtain⟨y4,hy,h⟩:=aS h
 refine clc false [.t Y24] [] (some 26) K (ok10 N _ hy) <| nN K (tn 2) <| sq <| VW.region <| nG K 1 (tn 1) ?_
 obtain⟨y5,hy,h⟩:=aS h
 refine clc true [.t Y24] [] (some 29) K (ok23 N _ hy) <| nN K (tn 6) <| sq <| sq <| VW.region <| nG K 2 (tn 2) ?_
 obtain⟨y7,hy,h⟩:=aS h
 refine clc true [.t Y24, .t Y24] [] (some 34) K (ok12 N _ _ hy) <| sG K 2 [1, 4, 5, 6, 7, 8, 36] [0, 5, 3, 4, 8, 6, 7, 11, 9, 10] ⟨[(1, .lf (.ptr 0 0 0 0)), (4, .lf (.ptr 1 0 0 0)), (5, B y3.2), (6, .lf (.ptr 4 0 0 0)), (7, .lf (.ptr 7 0 0 0)), (8, B y5.2), (36, B (!y7))], [bx (lv Y24 a0) 25, bx [zi y3.1.1, .hd 2 0 none, .hd 3 0 none, zi y3.1.2.2.2.1, zi y3.1.2.2.2.2.1, zi y3.1.2.2.2.2.2.1, zi y3.1.2.2.2.2.2.2.1, zi y3.1.2.2.2.2.2.2.2.1, zi y3.1.2.2.2.2.2.2.2.2] 31, ar 0 Y75 y3.1.2.1 .dp, ar 0 Y52 y3.1.2.2.1 .tp, bx [zi y4.1, .hd 5 0 none, .hd 6 0 none, zi y4.2.2.2.1, zi y4.2.2.2.2.1, zi y4.2.2.2.2.2.1, zi y4.2.2.2.2.2.2.1, zi y4.2.2.2.2.2.2.2.1, zi y4.2.2.2.2.2.2.2.2] 31, ar 0 Y75 y4.2.1 .dp, ar 0 Y52 y4.2.2.1 .dp, bx [zi y5.1.1, .hd 8 0 none, .hd 9 0 none, zi y5.1.2.2.2.1, zi y5.1.2.2.2.2.1, zi y5.1.2.2.2.2.2.1, zi y5.1.2.2.2.2.2.2.1, zi y5.1.2.2.2.2.2.2.2.1, zi y5.1.2.2.2.2.2.2.2.2] 31, ar 0 Y75 y5.1.2.1 .dp, ar 0 Y52 y5.1.2.2.1 .dp]⟩ (tn 2) ?_
 refine spC 36 h ?_ ?_<;>intro h
 ·refine nN K (tn 4) ?_
  refine VW.cond (b := true) (by kernel_rfl) (fun _ => ?_) (fun h' => nomatch h')
  refine nR K (tn 1) ?_
  cases h; exact VW.ret (rt [])
 refine nN K (tn 4) ?_
 refine cnd h ?_ ?_<;>intro h
 ·refine nR K (tn 1) ?_
  cases h; exact VW.ret (rt [])
 refine VW.skip <| sq <| sq ?_
 obtain⟨y10,hy10,h⟩:=aS h
 obtain⟨y11,hy11,h⟩:=aS h
 refine dr K [(2, .cl [] (some 43) [.agg [.v (.int .i64) y10.1, .own Y75 y10.2.1 .dp, .own Y52 y10.2.2.1 .dp, .v (.int .i64) y10.2.2.2.1, .v (.int .i64) y10.2.2.2.2.1, .v (.int .i64) y10.2.2.2.2.2.1, .v (.int .i64) y10.2.2.2.2.2.2.1, .v (.int .i64) y10.2.2.2.2.2.2.2.1, .v (.int .i64) y10.2.2.2.2.2.2.2.2]]), (3, .cl [] (some 44) [.lf (.v .bool y11)])] [(2, 0), (3, 1)] [2] [1, 4, 5, 6, 7, 8, 45] [0, 1, 2, 3, 4, 5, 6, 7, 8, 9] (tn 5) ⟨qC false [.t Y24] [] [] (some 43) K (ok10 N _ hy10), qC true [.t Y24, .t Y24] [] [] (some 44) K (ok12 N _ _ hy11), trivial⟩ ?_
 refine cnd h ?_ ?_<;>intro h
 ·refine nR K (tn 1) ?_
  cases h; exact VW.ret (rt [])
 refine VW.skip <| nR K (tn 1) <| sq <| VW.region <| nG K 2 (tn 2) ?_
 obtain⟨y12,hy,h⟩:=aS h
 refine VO.callM [5, 6] [.t Y24, .t (.int .i64)] (d := some 48) (by kernel_rfl) (by kernel_rfl) (ok20 N _ _ hy) (by kernel_rfl) <| nN K (tn 1) <| sq <| sq <| VW.region <| nG K 3 (tn 3) ?_
 refine spC 51 h ?_ ?_<;>intro h
 ·refine nN K (tn 10) ?_
  refine VW.cond (b := true) (by kernel_rfl) (fun _ => ?_) (fun h' => nomatch h')
  refine nR K (tn 1) ?_
  cases h; exact VW.ret (rt [])
 refine nG K 2 (tn 2) <| VO.on (j := 2) (want := false) (d := 51) (b := false) rfl rfl rfl (by kernel_rfl) rfl ?_
 obtain⟨y14,hy,h⟩:=aS h
 refine clc true [.t Y24, .t Y24] [] (some 54) K (ok12 N _ _ hy) <| nG K 3 (tn 3) ?_
 refine spC 57 h ?_ ?_<;>intro h
 ·refine nN K (tn 4) ?_
  refine VW.cond (b := true) (by kernel_rfl) (fun _ => ?_) (fun h' => nomatch h')
  refine nR K (tn 1) ?_
  cases h; exact VW.ret (rt [])
 refine nN K (tn 4) ?_
 refine cnd h ?_ ?_<;>intro h
 ·refine nR K (tn 1) ?_
  cases h; exact VW.ret (rt [])
 refine VW.skip <| nR K (tn 1) <| sq <| VW.region <| nG K 2 (tn 2) ?_
 obtain⟨y15,hy,h⟩:=aS h
 refine VO.callM [8, 9] [.t Y24, .t (.int .i64)] (d := some 64) (by kernel_rfl) (by kernel_rfl) (ok20 N _ _ hy) (by kernel_rfl) <| nN K (tn 1) <| sR K [1, 4, 5, 7, 10, 11] [0, 1, 2, 3, 7, 8, 9] ⟨[(1, .lf (.ptr 0 0 0 0)), (4, .lf (.ptr 1 0 0 0)), (5, B y3.2), (7, .lf (.ptr 4 0 0 0)), (10, I y15.2.2), (11, I (1 : Int))], [bx (lv Y24 a0) 25, bx [zi y3.1.1, .hd 2 0 none, .hd 3 0 none, zi y3.1.2.2.2.1, zi y3.1.2.2.2.2.1, zi y3.1.2.2.2.2.2.1, zi y3.1.2.2.2.2.2.2.1, zi y3.1.2.2.2.2.2.2.2.1, zi y3.1.2.2.2.2.2.2.2.2] 31, ar 0 Y75 y3.1.2.1 .dp, ar 0 Y52 y3.1.2.2.1 .tp, bx [zi y5.1.1, .hd 5 0 none, .hd 6 0 none, zi y5.1.2.2.2.1, zi y5.1.2.2.2.2.1, zi y5.1.2.2.2.2.2.1, zi y5.1.2.2.2.2.2.2.1, zi y5.1.2.2.2.2.2.2.2.1, zi y5.1.2.2.2.2.2.2.2.2] 31, ar 0 Y75 y15.1 .dp, ar 0 Y52 y15.2.1 .dp]⟩ (tn 1) ?_
 refine sq <| VW.region <| nG K 2 (tn 2) ?_
 obtain⟨y16,hy,h⟩:=aS h
 refine clc true [.t Y24, .t (.int .i64)] [] (some 67) K (ok21 N _ _ hy) <| nN K (tn 1) <| sq <| nR K (tn 2) ?_
 refine cnd h ?_ ?_<;>intro h
 ·refine nR K (tn 1) ?_
  cases h; exact VW.ret (rt [])
 refine VW.skip <| sq <| nR K (tn 3) ?_
 refine cnd h ?_ ?_<;>intro h
 ·refine nR K (tn 1) ?_
  cases h; exact VW.ret (rt [])
 refine VW.skip <| sq <| VW.region <| nG K 1 (tn 1) ?_
 obtain⟨y17,hy,h⟩:=aS h
 refine clc false [.t Y24] [] (some 75) K (ok10 N _ hy) ?_
 obtain⟨y18,hy,h⟩:=aS h
 refine clc true [.t Y24] [] (some 76) K (ok23 N _ hy) <| nN K (tn 6) <| sq <| sq <| VW.region <| nG K 2 (tn 2) ?_
 obtain⟨y20,hy,h⟩:=aS h
 refine clc true [.t Y24, .t Y24] [] (some 81) K (ok12 N _ _ hy) <| nG K 2 (tn 2) ?_
 refine spC 83 h ?_ ?_<;>intro h
 ·refine nN K (tn 4) ?_
  refine VW.cond (b := true) (by kernel_rfl) (fun _ => ?_) (fun h' => nomatch h')
  refine nR K (tn 1) ?_
  cases h; exact VW.ret (rt [])
 refine nN K (tn 4) ?_
 refine cnd h ?_ ?_<;>intro h
 ·refine nR K (tn 1) ?_
  cases h; exact VW.ret (rt [])
 refine VW.skip <| nR K (tn 1) <| sq <| VW.region <| nG K 2 (tn 2) ?_
 obtain⟨y21,hy,h⟩:=aS h
 refine clc true [.t Y24, .t (.int .i64)] [] (some 90) K (ok21 N _ _ hy) <| nN K (tn 1) <| sq <| sR K [10, 11, 92] [] ⟨[(10, I y15.2.2), (11, I y21), (92, B (decide (y21 < (0 : Int))))], []⟩ (tn 2) ?_
 refine cnd h ?_ ?_<;>intro h
 ·refine nR K (tn 1) ?_
  cases h; exact VW.ret (rt [])
 refine VW.skip <| sq <| nR K (tn 3) ?_
 refine cnd h ?_ ?_<;>intro h
 ·refine nR K (tn 1) ?_
  cases h; exact VW.ret (rt [])
 refine VW.skip <| nR K (tn 1) ?_
 cases h; exact VW.ret (rt [])
end Go.Proofs.YtedmjpefmoeldaaGreat.Vc
