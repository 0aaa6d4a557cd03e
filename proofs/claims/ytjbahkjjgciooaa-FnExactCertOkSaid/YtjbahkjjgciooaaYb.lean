/- What functions of the program compute, and that they do. -/
import Derived.Test.YtjbahkjjgciooaaYa
namespace Go.Proofs.Ytjbahkjjgciooaa.Vc
open Go Go.RowKit Go.Proofs.Try
set_option linter.unusedVariables false
set_option maxRecDepth 100000
set_option maxHeartbeats 4000000
def F167 (N : Nat) (a0 : (List Z82)) (a1 : ByteArray) : Option (Int) :=
  andO (F170 N a0 (fun z0 => F171 N z0 a1)) fun y1 => some y1
theorem ok167 N a0 a1 {r} (h : F167 N a0 a1 = some r) : Con prog 167 [Vv (.sl Y82) a0, S a1] [.lf (.v (.int .i64) r)] := by
 refine ctr [.lf (.v (.int .i64))] K func167 rfl fun w0 E0 ht => ?_
 unfold F167 at h
 show VW _ _ _ _ _ (retQ _ _ _ _) _
 refine nR K (tn 2) <| sq <| VW.region <| nG K 2 (tn 2) ?_
 have⟨y1,hy,h⟩:=aS h
 refine VO.ghl [.frzB 0 .str] <| cal false [.t (.sl Y82), .clo [.k]] [] (some 7) K (ok170_c1 N _ 171 a1 (fun z0 => F171 N z0 a1) (fun z0 _ hz => ok171 N z0 _ hz) hy) <| nN K (tn 1) ?_
 cases h; exact VW.ret (rt [])
def F168_j0 (N : Nat) (x12 : Int) : Option (Int) :=
  some x12
def F168_l0_b (N : Nat) (a0 : (List Int)) (nx21 : Int → Int → Option (Int)) (x17 : Int) (x18 : Int) : Option (Int) :=
  cond (decide (x18 < (a0.length : Int))) (gd (InR x18 a0.length) (nx21 (if (x17 : Int) < (a0.getD x18.toNat (Ty.dflt (.int .i64))) then (a0.getD x18.toNat (Ty.dflt (.int .i64))) else x17) (IntKind.i64.wrap (x18 + (1 : Int))))) (F168_j0 N x17)
def F168_l0 (N : Nat) (a0 : (List Int)) := loopF (F168_l0_b N a0) (fun _ _ => none)
theorem F168_l0_s N a0 {k} (hk : 0 < k) x17 x18 : F168_l0 N a0 k x17 x18 = F168_l0_b N a0 (F168_l0 N a0 (k - 1)) x17 x18 := by cases k;cases hk;rfl
def F168 (N : Nat) (a0 : (List Int)) : Option (Int) :=
  cond (decide ((a0.length : Int) < (1 : Int))) (none) (gd (InR (0 : Int) a0.length) (F168_l0 N a0 N (a0.getD (0 : Int).toNat (Ty.dflt (.int .i64))) (1 : Int)))
theorem ok168 N a0 {r} (h : F168 N a0 = some r) : Con prog 168 [Vv (.sl (.int .i64)) a0] [.lf (.v (.int .i64) r)] := by
 refine ctr [.lf (.v (.int .i64))] K func168 rfl fun w0 E0 ht => ?_
 unfold F168 at h
 show VW _ _ _ _ _ (retQ _ _ _ _) _
 refine nR K (tn 1) <| sq <| nR K (tn 3) ?_
 refine cnd h ?_ ?_<;>intro h
 ·exact nomatch h
 refine VW.skip ?_
 have⟨g1,h⟩:=gS h
 refine nR K (pu 1 (an g1 (tn 2))) ?_
 refine VW.join (fun s => ∃ x12, s = ⟨[(3, I x12)], []⟩ ∧ F168_j0 N x12 = some r) ?_ ?_
 ·refine nR K (tn 1) <| VW.block <| lop (fun k s => ∃ x17 x18, s = ⟨[(0, Vv (.sl (.int .i64)) a0), (3, I x17), (4, I x18)], []⟩ ∧ F168_l0 N a0 k x17 x18 = some r) N [.ren [0, 3, 4] []] ⟨(a0.getD (0 : Int).toNat (Ty.dflt (.int .i64))), (1 : Int), rfl, h⟩ ?_
  rintro k21 s ⟨x17, x18, rfl, h⟩
  cases k21 with
  | zero => cases show none = some r from h
  | succ k21 =>
   replace h : F168_l0_b N a0 (F168_l0 N a0 k21) x17 x18 = some r := h
   unfold F168_l0_b at h
   refine sq <| nR K (tn 4) ?_
   refine cnd h ?_ ?_<;>intro h
   ·refine VW.skip <| sq <| VW.block ?_
    have⟨g23,h⟩:=gS h
    refine nE K (pu 3 (an g23 (tn 3))) <| nE K (tn 3) ?_
    exact aro [.ren [0, 3, 4] []] ⟨(if (x17 : Int) < (a0.getD x18.toNat (Ty.dflt (.int .i64))) then (a0.getD x18.toNat (Ty.dflt (.int .i64))) else x17), (wr (x18 + (1 : Int))), rfl, h⟩
   refine VW.exit ?_
   exact arv [.ren [3] []] ⟨x17, rfl, h⟩
 rintro s ⟨x12, rfl, h⟩
 unfold F168_j0 at h
 refine nR K (tn 2) ?_
 cases h; exact VW.ret (rt [])
def F149_j0 (N : Nat) (x31 : (List Int)) : Option (Int) :=
  gd (InR (0 : Int) x31.length) (gd ((0 : Int).toNat < x31.length) (some (x31.getD ((0 : Int).toNat) (Ty.dflt (.int .i64)))))
def F149_j1 (N : Nat) (x31 : (List Int)) (x86 : Int) (x87 : ByteArray) (x88 : Int) (x89 : Int) (x90 : Int) (x91 : Bool) (x92 : (List Int)) (x93 : Int) (x94 : Bool) : Option (Int) :=
  cond x94 (gd (InR (0 : Int) x31.length) (gd ((0 : Int).toNat < x31.length) (cond (decide (x88 ≥ (x31.getD ((0 : Int).toNat) (Ty.dflt (.int .i64))))) (some (-1 : Int)) (F149_j0 N x31)))) (cond (x93 == (2 : Int)) (andO (F168 N x92) fun y100 => gd (InR (0 : Int) x31.length) (gd ((0 : Int).toNat < x31.length) (cond (decide (y100 ≥ (x31.getD ((0 : Int).toNat) (Ty.dflt (.int .i64))))) (some (-1 : Int)) (some (x92.length : Int))))) (cond (x93 == (3 : Int)) (gd (InR (0 : Int) x31.length) (gd ((0 : Int).toNat < x31.length) (cond (decide (x88 ≥ (x31.getD ((0 : Int).toNat) (Ty.dflt (.int .i64))))) (some (-1 : Int)) (gd (InR (1 : Int) x31.length) (gd ((1 : Int).toNat < x31.length) (cond (decide (x90 ≥ (x31.getD ((1 : Int).toNat) (Ty.dflt (.int .i64))))) (some (-1 : Int)) (gd (InR (0 : Int) x31.length) (gd ((0 : Int).toNat < x31.length) (gd (InR (1 : Int) x31.length) (gd ((1 : Int).toNat < x31.length) (cond (decide ((IntKind.i64.wrap ((x31.getD ((0 : Int).toNat) (Ty.dflt (.int .i64))) + (x31.getD ((1 : Int).toNat) (Ty.dflt (.int .i64))))) > (64 : Int))) (some (-1 : Int)) (gd (InR (0 : Int) x31.length) (gd ((0 : Int).toNat < x31.length) (gd (InR (1 : Int) x31.length) (gd ((1 : Int).toNat < x31.length) (some (IntKind.i64.wrap ((x31.getD ((0 : Int).toNat) (Ty.dflt (.int .i64))) + (x31.getD ((1 : Int).toNat) (Ty.dflt (.int .i64))))))))))))))))))))) (cond (x93 == (4 : Int)) (gd (InR (0 : Int) x31.length) (gd ((0 : Int).toNat < x31.length) (gd (InR (1 : Int) x31.length) (gd ((1 : Int).toNat < x31.length) (cond ((x31.getD ((0 : Int).toNat) (Ty.dflt (.int .i64))) != (x31.getD ((1 : Int).toNat) (Ty.dflt (.int .i64)))) (some (-1 : Int)) (F149_j0 N x31)))))) (F149_j0 N x31))))
def F149_j2 (N : Nat) (a0 : (List Z82)) (a1 : (List Z76)) (a2 : Int) (x31 : (List Int)) : Option (Int) :=
  gd (InR a2 a1.length) (cond (((a1.getD a2.toNat (Ty.dflt Y76)).1) == (0 : Int)) (andO (F167 N a0 ((a1.getD a2.toNat (Ty.dflt Y76)).2.1)) fun y84 => cond (decide (y84 < (0 : Int))) (some (-1 : Int)) (gd (InR y84 a0.length) (some ((a0.getD y84.toNat (Ty.dflt Y82)).2)))) (cond (((a1.getD a2.toNat (Ty.dflt Y76)).1) == (1 : Int)) (F149_j1 N x31 ((a1.getD a2.toNat (Ty.dflt Y76)).1) ((a1.getD a2.toNat (Ty.dflt Y76)).2.1) ((a1.getD a2.toNat (Ty.dflt Y76)).2.2.1) ((a1.getD a2.toNat (Ty.dflt Y76)).2.2.2.1) ((a1.getD a2.toNat (Ty.dflt Y76)).2.2.2.2.1) ((a1.getD a2.toNat (Ty.dflt Y76)).2.2.2.2.2.1) ((a1.getD a2.toNat (Ty.dflt Y76)).2.2.2.2.2.2) ((a1.getD a2.toNat (Ty.dflt Y76)).1) (((a1.getD a2.toNat (Ty.dflt Y76)).1) == (1 : Int))) (F149_j1 N x31 ((a1.getD a2.toNat (Ty.dflt Y76)).1) ((a1.getD a2.toNat (Ty.dflt Y76)).2.1) ((a1.getD a2.toNat (Ty.dflt Y76)).2.2.1) ((a1.getD a2.toNat (Ty.dflt Y76)).2.2.2.1) ((a1.getD a2.toNat (Ty.dflt Y76)).2.2.2.2.1) ((a1.getD a2.toNat (Ty.dflt Y76)).2.2.2.2.2.1) ((a1.getD a2.toNat (Ty.dflt Y76)).2.2.2.2.2.2) ((a1.getD a2.toNat (Ty.dflt Y76)).1) (((a1.getD a2.toNat (Ty.dflt Y76)).1) == (5 : Int)))))
def F149_l0_b (N : Nat) (a0 : (List Z82)) (a1 : (List Z76)) (a2 : Int) (self : (List Z82) → (List Z76) → Int → Option (Int)) (y133 : (List Int)) (nx154 : (List Int) → Int → Int → Option (Int)) (x143 : (List Int)) (x144 : Int) (x145 : Int) : Option (Int) :=
  cond (decide (x145 < x144)) (gd (InR x145 y133.length) (gd (x145.toNat < y133.length) (andO (self a0 a1 (y133.getD x145.toNat (Ty.dflt (.int .i64)))) fun y161 => cond (decide (y161 < (0 : Int))) (some (-1 : Int)) (gd (x143.length + ([y161]).length ≤ lim (.int .i64)) (nx154 (x143 ++ ([y161])) x144 (IntKind.i64.wrap (x145 + (1 : Int)))))))) (F149_j2 N a0 a1 a2 x143)
def F149_l0 (N : Nat) (a0 : (List Z82)) (a1 : (List Z76)) (a2 : Int) (self : (List Z82) → (List Z76) → Int → Option (Int)) (y133 : (List Int)) := loopF (F149_l0_b N a0 a1 a2 self y133) (fun _ _ _ => none)
theorem F149_l0_s N a0 a1 a2 (self : (List Z82) → (List Z76) → Int → Option (Int)) y133 {k} (hk : 0 < k) x143 x144 x145 : F149_l0 N a0 a1 a2 self y133 k x143 x144 x145 = F149_l0_b N a0 a1 a2 self y133 (F149_l0 N a0 a1 a2 self y133 (k - 1)) x143 x144 x145 := by cases k;cases hk;rfl
def F149_b (N : Nat) (self : (List Z82) → (List Z76) → Int → Option (Int)) (a0 : (List Z82)) (a1 : (List Z76)) (a2 : Int) : Option (Int) :=
  andO (F151 N a1 a2) fun y133 => F149_l0 N a0 a1 a2 self y133 N ([]) (y133.length : Int) (0 : Int)
theorem ok149_b (N : Nat) (self : (List Z82) → (List Z76) → Int → Option (Int)) (ih : ∀ (a0 : (List Z82)) (a1 : (List Z76)) (a2 : Int) (r : Int), self a0 a1 a2 = some r → Con prog 149 [Vv (.sl Y82) a0, Vv (.sl Y76) a1, I a2] [.lf (.v (.int .i64) r)]) (a0 : (List Z82)) (a1 : (List Z76)) (a2 : Int) {r : Int} (h : F149_b N self a0 a1 a2 = some r) : Con prog 149 [Vv (.sl Y82) a0, Vv (.sl Y76) a1, I a2] [.lf (.v (.int .i64) r)] := by
 refine ctr [.lf (.v (.int .i64))] K func149 rfl fun w0 E0 ht => ?_
 unfold F149_b at h
 show VW _ _ _ _ _ (retQ _ _ _ _) _
 refine nR K (tn 1) <| nR K (tn 1) ?_
 refine VW.join (fun s => ∃ x31, s = ⟨[(0, Vv (.sl Y82) a0), (1, Vv (.sl Y76) a1), (2, I a2), (7, hh 0)], [ar 0 (.int .i64) x31 .dp]⟩ ∧ F149_j2 N a0 a1 a2 x31 = some r) ?_ ?_
 ·refine sq <| VW.region <| nG K 2 (tn 2) ?_
  have⟨y133,hy,h⟩:=aS h
  refine cal false [.t (.sl Y76), .t (.int .i64)] [] (some 15) K (ok151 N _ _ hy) <| nN K (tn 2) <| VW.block <| lop (fun k s => ∃ x143 x144 x145, s = ⟨[(0, Vv (.sl Y82) a0), (1, Vv (.sl Y76) a1), (2, I a2), (7, hh 0), (15, hh 1), (16, I x144), (17, I x145)], [ar 0 (.int .i64) x143 .dp, ar 0 (.int .i64) y133 .dp]⟩ ∧ F149_l0 N a0 a1 a2 self y133 k x143 x144 x145 = some r) N [.nilS 7 (.int .i64) .dp, .ren [0, 1, 2, 7, 15, 16, 17] [1, 0]] ⟨[], (y133.length : Int), (0 : Int), rfl, h⟩ ?_
  rintro k154 s ⟨x143, x144, x145, rfl, h⟩
  cases k154 with
  | zero => cases show none = some r from h
  | succ k154 =>
   replace h : F149_l0_b N a0 a1 a2 self y133 (F149_l0 N a0 a1 a2 self y133 k154) x143 x144 x145 = some r := h
   unfold F149_l0_b at h
   refine nR K (tn 1) <| sq ?_
   refine cnd h ?_ ?_<;>intro h
   ·refine VW.skip <| sq <| VW.block ?_
    have⟨g159,h⟩:=gS h
    have⟨g160,h⟩:=gS h
    refine nR K (an g159 (an g160 (tn 1))) <| sq <| VW.region <| nG K 3 (tn 3) ?_
    have⟨y161,hy,h⟩:=aS h
    refine cal false [.t (.sl Y82), .t (.sl Y76), .t (.int .i64)] [] (some 24) K (ih _ _ _ _ hy) <| nN K (tn 1) <| sq <| nR K (tn 2) ?_
    refine cnd h ?_ ?_<;>intro h
    ·refine sR K [6] [] ⟨[(6, I (-1 : Int))], []⟩ (tn 1) ?_
     cases h; exact VW.ret (rt [])
    refine VW.skip ?_
    have⟨g162,h⟩:=gS h
    refine rR K [0, 1, 2, 7, 15, 16, 17] [0, 1] ⟨[(0, Vv (.sl Y82) a0), (1, Vv (.sl Y76) a1), (2, I a2), (7, hh 0), (15, hh 1), (16, I x144), (17, I x145)], [ar 0 (.int .i64) (x143 ++ ([y161])) .dp, ar 0 (.int .i64) y133 .dp]⟩ (pu 3 (an g162 (tn 1))) <| nE K (tn 2) ?_
    exact aro [.ren [0, 1, 2, 7, 15, 16, 17] [0, 1]] ⟨(x143 ++ ([y161])), x144, (wr (x145 + (1 : Int))), rfl, h⟩
   refine VW.exit ?_
   exact arv [.ren [0, 1, 2, 7] [0]] ⟨x143, rfl, h⟩
 rintro s ⟨x31, rfl, h⟩
 unfold F149_j2 at h
 have⟨g32,h⟩:=gS h
 refine nR K (pu 2 (an g32 (tn 3))) ?_
 refine VW.join (fun s => s = ⟨[(7, hh 0)], [ar 0 (.int .i64) x31 .dp]⟩ ∧ F149_j0 N x31 = some r) ?_ ?_
 ·refine nR K (tn 2) <| VW.block <| nR K (tn 2) ?_
  refine cnd h ?_ ?_<;>intro h
  ·refine sq <| VW.region <| nG K 3 (tn 3) ?_
   have⟨y84,hy,h⟩:=aS h
   refine cal false [.t (.sl Y82), .t .str] [] (some 43) K (ok167 N _ _ hy) <| nN K (tn 1) <| sq <| sR K [0, 12, 45] [] ⟨[(0, Vv (.sl Y82) a0), (12, I y84), (45, B (decide (y84 < (0 : Int))))], []⟩ (tn 2) ?_
   refine cnd h ?_ ?_<;>intro h
   ·refine nR K (tn 1) ?_
    cases h; exact VW.ret (rt [])
   refine VW.skip ?_
   have⟨g85,h⟩:=gS h
   refine nR K (pu 2 (an g85 (tn 3))) ?_
   cases h; exact VW.ret (rt [])
  refine VW.join (fun s => ∃ x86 x87 x88 x89 x90 x91 x92 x93 x94, s = ⟨[(7, hh 0), (11, .lf (.ptr 1 0 0 0)), (37, I x93), (51, B x94)], [ar 0 (.int .i64) x31 .dp, bx [zi x86, zs x87, zi x88, zi x89, zi x90, zb x91, .v (.sl (.int .i64)) x92] 78]⟩ ∧ F149_j1 N x31 x86 x87 x88 x89 x90 x91 x92 x93 x94 = some r) ?_ ?_
  ·refine nR K (tn 2) ?_
   refine cnd h ?_ ?_<;>intro h
   ·refine VW.skip ?_
    exact arv [.ren [7, 11, 37, 51] [0, 1]] ⟨(a1.getD a2.toNat D76).1, (a1.getD a2.toNat D76).2.1, (a1.getD a2.toNat D76).2.2.1, (a1.getD a2.toNat D76).2.2.2.1, (a1.getD a2.toNat D76).2.2.2.2.1, (a1.getD a2.toNat D76).2.2.2.2.2.1, (a1.getD a2.toNat D76).2.2.2.2.2.2, (a1.getD a2.toNat D76).1, (((a1.getD a2.toNat D76).1) == (1 : Int)), rfl, h⟩
   refine nE K (tn 2) ?_
   exact arv [.ren [7, 11, 37, 51] [0, 1]] ⟨(a1.getD a2.toNat D76).1, (a1.getD a2.toNat D76).2.1, (a1.getD a2.toNat D76).2.2.1, (a1.getD a2.toNat D76).2.2.2.1, (a1.getD a2.toNat D76).2.2.2.2.1, (a1.getD a2.toNat D76).2.2.2.2.2.1, (a1.getD a2.toNat D76).2.2.2.2.2.2, (a1.getD a2.toNat D76).1, (((a1.getD a2.toNat D76).1) == (5 : Int)), rfl, h⟩
  rintro s ⟨x86, x87, x88, x89, x90, x91, x92, x93, x94, rfl, h⟩
  unfold F149_j1 at h
  refine cnd h ?_ ?_<;>intro h
  ·refine sq ?_
   have⟨g95,h⟩:=gS h
   have⟨g96,h⟩:=gS h
   refine dr K [] [] [] [7, 59] [0] (pu 3 (an g95 (an g96 (tn 1)))) trivial ?_
   refine cnd h ?_ ?_<;>intro h
   ·refine nR K (tn 1) ?_
    cases h; exact VW.ret (rt [])
   refine VW.skip ?_
   exact arv [.ren [7] [0]] ⟨rfl, h⟩
  refine nR K (tn 2) ?_
  refine cnd h ?_ ?_<;>intro h
  ·refine sq <| sq ?_
   have⟨y100,hy100,h⟩:=aS h
   have⟨g101,h⟩:=gS h
   have⟨g102,h⟩:=gS h
   refine dr K [(2, .cl [] (some 64) [.lf (.v (.int .i64) y100)])] [(2, 0)] [] [11, 68] [1] (pu 4 (an g101 (an g102 (tn 1)))) ⟨qC false [.t (.sl (.int .i64))] [] [] (some 64) K (ok168 N _ hy100), trivial⟩ ?_
   refine cnd h ?_ ?_<;>intro h
   ·refine nR K (tn 1) ?_
    cases h; exact VW.ret (rt [])
   refine VW.skip <| nR K (tn 4) ?_
   cases h; exact VW.ret (rt [])
  refine nR K (tn 2) ?_
  refine cnd h ?_ ?_<;>intro h
  ·refine sq <| sq ?_
   have⟨g113,h⟩:=gS h
   have⟨g114,h⟩:=gS h
   rcases Bool.eq_false_or_eq_true (decide (x88 ≥ (x31.getD ((0 : Int).toNat) (Ty.dflt (.int .i64))))) with hb115 | hb115
   ·replace h := cond_t h hb115
    refine dr K [(6, .lit true)] [(6, 0)] [] [7, 97] [0] (pu 3 (an g113 (an g114 (tn 19)))) ⟨qB 80 hb115 K trivial, trivial⟩ ?_
    refine VW.cond (b := true) (by kernel_rfl) (fun _ => ?_) (fun h' => nomatch h')
    refine nR K (tn 1) ?_
    cases h; exact VW.ret (rt [])
   replace h := cond_f h hb115
   have⟨g116,h⟩:=gS h
   have⟨g117,h⟩:=gS h
   rcases Bool.eq_false_or_eq_true (decide (x90 ≥ (x31.getD ((1 : Int).toNat) (Ty.dflt (.int .i64))))) with hb118 | hb118
   ·replace h := cond_t h hb118
    refine dr K [(6, .lit false), (14, .lit true)] [(6, 0), (14, 0)] [] [7, 97] [0] (pu 3 (an g113 (an g114 (pu 5 (an g116 (an g117 (tn 12))))))) ⟨qB 80 hb115 K trivial, qB 88 hb118 K trivial, trivial⟩ ?_
    refine VW.cond (b := true) (by kernel_rfl) (fun _ => ?_) (fun h' => nomatch h')
    refine nR K (tn 1) ?_
    cases h; exact VW.ret (rt [])
   replace h := cond_f h hb118
   have⟨g119,h⟩:=gS h
   have⟨g120,h⟩:=gS h
   have⟨g121,h⟩:=gS h
   have⟨g122,h⟩:=gS h
   refine dr K [(6, .lit false), (14, .lit false)] [(6, 0), (14, 0)] [] [7, 97] [0] (pu 3 (an g113 (an g114 (pu 5 (an g116 (an g117 (pu 4 (an g119 (an g120 (pu 1 (an g121 (an g122 (tn 3))))))))))))) ⟨qB 80 hb115 K trivial, qB 88 hb118 K trivial, trivial⟩ ?_
   refine cnd h ?_ ?_<;>intro h
   ·refine nR K (tn 1) ?_
    cases h; exact VW.ret (rt [])
   refine VW.skip <| sq ?_
   have⟨g123,h⟩:=gS h
   have⟨g124,h⟩:=gS h
   have⟨g125,h⟩:=gS h
   have⟨g126,h⟩:=gS h
   refine dr K [] [] [] [6] [] (pu 1 (an g123 (an g124 (pu 1 (an g125 (an g126 (tn 2))))))) trivial ?_
   cases h; exact VW.ret (rt [])
  refine nR K (tn 2) ?_
  refine cnd h ?_ ?_<;>intro h
  ·refine sq ?_
   have⟨g127,h⟩:=gS h
   have⟨g128,h⟩:=gS h
   have⟨g129,h⟩:=gS h
   have⟨g130,h⟩:=gS h
   refine dr K [] [] [] [7, 113] [0] (pu 1 (an g127 (an g128 (pu 1 (an g129 (an g130 (tn 1))))))) trivial ?_
   refine cnd h ?_ ?_<;>intro h
   ·refine nR K (tn 1) ?_
    cases h; exact VW.ret (rt [])
   refine VW.skip ?_
   exact arv [.ren [7] [0]] ⟨rfl, h⟩
  refine VW.skip ?_
  exact arv [.ren [7] [0]] ⟨rfl, h⟩
 rintro s ⟨rfl, h⟩
 unfold F149_j0 at h
 have⟨g81,h⟩:=gS h
 have⟨g82,h⟩:=gS h
 refine nR K (pu 1 (an g81 (an g82 (tn 1)))) ?_
 cases h; exact VW.ret (rt [])
def F149_r (N : Nat) := loopF (F149_b N) (fun _ _ _ => none)
theorem F149_s N {k} (hk : 0 < k) a0 a1 a2 : F149_r N k a0 a1 a2 = F149_b N (F149_r N (k - 1)) a0 a1 a2 := by cases k;cases hk;rfl
def F149 (N : Nat) : (List Z82) → (List Z76) → Int → Option (Int) := F149_r N N
theorem ok149_k (N : Nat) : ∀ (k : Nat) (a0 : (List Z82)) (a1 : (List Z76)) (a2 : Int) (r : Int), loopF (F149_b N) (fun _ _ _ => none) k a0 a1 a2 = some r → Con prog 149 [Vv (.sl Y82) a0, Vv (.sl Y76) a1, I a2] [.lf (.v (.int .i64) r)]
 | 0, a0, a1, a2, r, h => nomatch (show (none : Option (Int)) = some r from h)
 | k + 1, a0, a1, a2, r, h => ok149_b N _ (ok149_k N k) a0 a1 a2 h
theorem ok149 N a0 a1 a2 {r} (h : F149 N a0 a1 a2 = some r) : Con prog 149 [Vv (.sl Y82) a0, Vv (.sl Y76) a1, I a2] [.lf (.v (.int .i64) r)] := ok149_k N N a0 a1 a2 r h
def F109 (N : Nat) (a0 : (List Z82)) (a1 : (List Z76)) : Option (Int) :=
  andO (F148 N a0) fun y3 => cond (!y3) (some (-1 : Int)) (andO (F83 N a1) fun y4 => cond (!y4) (some (-1 : Int)) (andO (F149 N a0 a1 (0 : Int)) fun y5 => some y5))
theorem ok109 N a0 a1 {r} (h : F109 N a0 a1 = some r) : Con prog 109 [Vv (.sl Y82) a0, Vv (.sl Y76) a1] [.lf (.v (.int .i64) r)] := by
 refine ctr [.lf (.v (.int .i64))] K func109 rfl fun w0 E0 ht => ?_
 unfold F109 at h
 show VW _ _ _ _ _ (retQ _ _ _ _) _
 refine nR K (tn 1) <| sq <| sq <| VW.region <| nG K 1 (tn 1) ?_
 have⟨y3,hy,h⟩:=aS h
 refine cal false [.t (.sl Y82)] [] (some 6) K (ok148 N _ hy) <| nG K 2 (tn 2) ?_
 refine spB 8 h ?_ ?_<;>intro h
 ·refine nN K (tn 4) ?_
  refine VW.cond (b := true) (by kernel_rfl) (fun _ => ?_) (fun h' => nomatch h')
  refine nR K (tn 1) ?_
  cases h; exact VW.ret (rt [])
 refine nG K 1 (tn 1) <| VO.on (j := 3) (want := false) (d := 8) (b := false) rfl rfl rfl (by kernel_rfl) rfl ?_
 have⟨y4,hy,h⟩:=aS h
 refine cal false [.t (.sl Y76)] [] (some 10) K (ok83 N _ hy) <| nN K (tn 2) ?_
 refine cnd h ?_ ?_<;>intro h
 ·refine sR K [4] [] ⟨[(4, I (-1 : Int))], []⟩ (tn 1) ?_
  cases h; exact VW.ret (rt [])
 refine VW.skip <| sq <| VW.region <| sG K 2 [13, 14] [] ⟨[(13, Vv (.sl Y82) a0), (14, Vv (.sl Y76) a1)], []⟩ (tn 2) ?_
 have⟨y5,hy,h⟩:=aS h
 refine cal false [.t (.sl Y82), .t (.sl Y76), .t (.int .i64)] [] (some 15) K (ok149 N _ _ _ hy) <| nN K (tn 1) ?_
 cases h; exact VW.ret (rt [])
def F69 (N : Nat) (a0 : (List Z82)) (a1 : (List Z76)) : Option (Bool) :=
  andO (F109 N a0 a1) fun y1 => some (decide (y1 ≥ (0 : Int)))
theorem ok69 N a0 a1 {r} (h : F69 N a0 a1 = some r) : Con prog 69 [Vv (.sl Y82) a0, Vv (.sl Y76) a1] [.lf (.v .bool r)] := by
 refine ctr [.lf (.v .bool)] K func69 rfl fun w0 E0 ht => ?_
 unfold F69 at h
 show VW _ _ _ _ _ (retQ _ _ _ _) _
 refine nR K (tn 1) <| sq <| VW.region <| nG K 2 (tn 2) ?_
 have⟨y1,hy,h⟩:=aS h
 refine cal false [.t (.sl Y82), .t (.sl Y76)] [] (some 7) K (ok109 N _ _ hy) <| nN K (tn 2) ?_
 cases h; exact VW.ret (rt [])
def F110 (N : Nat) (a0 : (List Int)) : Option ((List Int)) :=
  gd (a0.length ≤ lim (.int .i64)) (some a0)
theorem ok110 N a0 {r} (h : F110 N a0 = some r) : Con prog 110 [Vv (.sl (.int .i64)) a0] [.lf (.own (.int .i64) r .dp)] := by
 refine ctr [.lf (.own (.int .i64) .dp)] K func110 rfl fun w0 E0 ht => ?_
 unfold F110 at h
 show VW _ _ _ _ _ (retQ _ _ _ _) _
 refine nR K (tn 1) <| sq <| sq <| VW.region <| nG K 1 (tn 1) ?_
 refine VO.isNil (d := 4) (e := (.int .i64)) (xs := a0) K rfl rfl rfl rfl (by kernel_rfl) (by kernel_rfl) (fun hx => ?_) ?_
 ·replace h : some ([]) = some r := by
   subst hx; first | exact h | exact (gd_some h).2
  refine nN K (tn 0) ?_
  refine VW.cond (b := true) (by kernel_rfl) (fun _ => ?_) (fun h' => nomatch h')
  refine nR K (tn 1) ?_
  cases h; exact VW.ret (rt [none])
 refine nN K (tn 0) ?_
 refine VW.cond (b := false) (by kernel_rfl) (fun h' => nomatch h') (fun _ => ?_)
 refine VW.skip ?_
 have⟨g1,h⟩:=gS h
 refine nR K (pu 2 (an g1 (tn 1))) ?_
 cases h; exact VW.ret (rt [some 0])
def F70_j0 (N : Nat) (x24 : (List Z76)) : Option ((List Z76)) :=
  some x24
def F70_l0_b (N : Nat) (a0 : (List Z76)) (nx42 : (List Z76) → Int → Int → Option ((List Z76))) (x33 : (List Z76)) (x34 : Int) (x35 : Int) : Option ((List Z76)) :=
  cond (decide (x35 < x34)) (gd (InR x35 a0.length) (andO (F110 N ((a0.getD x35.toNat (Ty.dflt Y76)).2.2.2.2.2.2)) fun y47 => gd (x33.length + ([((a0.getD x35.toNat (Ty.dflt Y76)).1, ((a0.getD x35.toNat (Ty.dflt Y76)).2.1, ((a0.getD x35.toNat (Ty.dflt Y76)).2.2.1, ((a0.getD x35.toNat (Ty.dflt Y76)).2.2.2.1, ((a0.getD x35.toNat (Ty.dflt Y76)).2.2.2.2.1, ((a0.getD x35.toNat (Ty.dflt Y76)).2.2.2.2.2.1, y47))))))]).length ≤ lim Y76) (nx42 (x33 ++ ([((a0.getD x35.toNat (Ty.dflt Y76)).1, ((a0.getD x35.toNat (Ty.dflt Y76)).2.1, ((a0.getD x35.toNat (Ty.dflt Y76)).2.2.1, ((a0.getD x35.toNat (Ty.dflt Y76)).2.2.2.1, ((a0.getD x35.toNat (Ty.dflt Y76)).2.2.2.2.1, ((a0.getD x35.toNat (Ty.dflt Y76)).2.2.2.2.2.1, y47))))))])) x34 (IntKind.i64.wrap (x35 + (1 : Int)))))) (F70_j0 N x33)
def F70_l0 (N : Nat) (a0 : (List Z76)) := loopF (F70_l0_b N a0) (fun _ _ _ => none)
theorem F70_l0_s N a0 {k} (hk : 0 < k) x33 x34 x35 : F70_l0 N a0 k x33 x34 x35 = F70_l0_b N a0 (F70_l0 N a0 (k - 1)) x33 x34 x35 := by cases k;cases hk;rfl
def F70 (N : Nat) (a0 : (List Z76)) : Option ((List Z76)) :=
  F70_l0 N a0 N ([]) (a0.length : Int) (0 : Int)
theorem ok70 N a0 {r} (h : F70 N a0 = some r) : Con prog 70 [Vv (.sl Y76) a0] [.lf (.own Y76 r .dp)] := by
 refine ctr [.lf (.own Y76 .dp)] K func70 rfl fun w0 E0 ht => ?_
 unfold F70 at h
 show VW _ _ _ _ _ (retQ _ _ _ _) _
 refine nR K (tn 1) <| nR K (tn 1) ?_
 refine VW.join (fun s => ∃ x24, s = ⟨[(3, hh 0)], [ar 0 Y76 x24 .dp]⟩ ∧ F70_j0 N x24 = some r) ?_ ?_
 ·refine nR K (tn 3) <| VW.block <| lop (fun k s => ∃ x33 x34 x35, s = ⟨[(3, hh 0), (6, Vv (.sl Y76) a0), (7, I x34), (8, I x35)], [ar 0 Y76 x33 .dp]⟩ ∧ F70_l0 N a0 k x33 x34 x35 = some r) N [.nilS 3 Y76 .dp, .ren [3, 6, 7, 8] [0]] ⟨[], (a0.length : Int), (0 : Int), rfl, h⟩ ?_
  rintro k42 s ⟨x33, x34, x35, rfl, h⟩
  cases k42 with
  | zero => cases show none = some r from h
  | succ k42 =>
   replace h : F70_l0_b N a0 (F70_l0 N a0 k42) x33 x34 x35 = some r := h
   unfold F70_l0_b at h
   refine nR K (tn 1) <| sq ?_
   refine cnd h ?_ ?_<;>intro h
   ·refine VW.skip <| sq <| VW.block ?_
    have⟨g46,h⟩:=gS h
    refine nR K (an g46 (tn 3)) <| sq <| VW.region <| nG K 2 (tn 2) ?_
    have⟨y47,hy,h⟩:=aS h
    refine cal false [.t (.sl (.int .i64))] [] (some 14) K (ok110 N _ hy) <| nN K (tn 2) <| VW.region <| nG K 2 (tn 2) <| VO.litA (d := 18) (v := hh 3) (H' := [ar 0 Y76 x33 .dp, bx [zi ((a0.getD x35.toNat D76).1), zs ((a0.getD x35.toNat D76).2.1), zi ((a0.getD x35.toNat D76).2.2.1), zi ((a0.getD x35.toNat D76).2.2.2.1), zi ((a0.getD x35.toNat D76).2.2.2.2.1), zb ((a0.getD x35.toNat D76).2.2.2.2.2.1), .hd 2 0 none] 78, none, ar 0 Y76 ([((a0.getD x35.toNat D76).1, ((a0.getD x35.toNat D76).2.1, ((a0.getD x35.toNat D76).2.2.1, ((a0.getD x35.toNat D76).2.2.2.1, ((a0.getD x35.toNat D76).2.2.2.2.1, ((a0.getD x35.toNat D76).2.2.2.2.2.1, y47))))))]) .dp]) K (by kernel_rfl) ?_
    have⟨g48,h⟩:=gS h
    refine VO.appM (d := 19) (φ := x33.length + ([((a0.getD x35.toNat D76).1, ((a0.getD x35.toNat D76).2.1, ((a0.getD x35.toNat D76).2.2.1, ((a0.getD x35.toNat D76).2.2.2.1, ((a0.getD x35.toNat D76).2.2.2.2.1, ((a0.getD x35.toNat D76).2.2.2.2.2.1, y47))))))]).length ≤ lim Y76) (v := .lf (.hd 0 1 none)) (H' := [ar 1 Y76 (x33 ++ ([((a0.getD x35.toNat D76).1, ((a0.getD x35.toNat D76).2.1, ((a0.getD x35.toNat D76).2.2.1, ((a0.getD x35.toNat D76).2.2.2.1, ((a0.getD x35.toNat D76).2.2.2.2.1, ((a0.getD x35.toNat D76).2.2.2.2.2.1, y47))))))])) .dp, bx [zi ((a0.getD x35.toNat D76).1), zs ((a0.getD x35.toNat D76).2.1), zi ((a0.getD x35.toNat D76).2.2.1), zi ((a0.getD x35.toNat D76).2.2.2.1), zi ((a0.getD x35.toNat D76).2.2.2.2.1), zb ((a0.getD x35.toNat D76).2.2.2.2.2.1), .hd 2 0 none] 78, none, none]) K (by kernel_rfl) g48 ?_
    refine nN K (tn 1) <| nE K (tn 2) ?_
    exact aro [.ren [3, 6, 7, 8] [0]] ⟨(x33 ++ ([((a0.getD x35.toNat D76).1, ((a0.getD x35.toNat D76).2.1, ((a0.getD x35.toNat D76).2.2.1, ((a0.getD x35.toNat D76).2.2.2.1, ((a0.getD x35.toNat D76).2.2.2.2.1, ((a0.getD x35.toNat D76).2.2.2.2.2.1, y47))))))])), x34, (wr (x35 + (1 : Int))), rfl, h⟩
   refine VW.exit ?_
   exact arv [.ren [3] [0]] ⟨x33, rfl, h⟩
 rintro s ⟨x24, rfl, h⟩
 unfold F70_j0 at h
 refine nR K (tn 2) ?_
 cases h; exact VW.ret (rt [some 0])
def F152_j0 (N : Nat) (x4 : (List Z76)) : Option ((List Z76)) :=
  some x4
def F152 (N : Nat) (a0 : (List Z76)) (a1 : Int) : Option ((List Z76)) :=
  cond (decide (a1 < (0 : Int))) (none) (cond (decide ((IntKind.i64.wrap (a1 - (IntKind.i64.wrap ((0 : Int) - (0 : Int))))) > (0 : Int))) (gd ((0 : Int) = (0 : Int)) (gd (0 ≤ (IntKind.i64.wrap (a1 - (IntKind.i64.wrap ((0 : Int) - (0 : Int))))) ∧ (IntKind.i64.wrap (a1 - (IntKind.i64.wrap ((0 : Int) - (0 : Int))))) ≤ (lim Y76 : Int)) (gd (0 ≤ (0 : Int) ∧ (0 : Int) ≤ ((List.replicate (IntKind.i64.wrap (a1 - (IntKind.i64.wrap ((0 : Int) - (0 : Int))))).toNat (Ty.dflt Y76)).length : Int)) (F152_j0 N ((List.replicate (IntKind.i64.wrap (a1 - (IntKind.i64.wrap ((0 : Int) - (0 : Int))))).toNat (Ty.dflt Y76)).take ((0 : Int).toNat)))))) (F152_j0 N ([])))
theorem ok152 N a0 a1 {r} (h : F152 N a0 a1 = some r) : Con prog 152 [.lf (.nil), I a1] [.lf (.own Y76 r .tp)] := by
 refine ctr [.lf (.own Y76 .tp)] K func152 rfl fun w0 E0 ht => ?_
 unfold F152 at h
 show VW _ _ _ _ _ (retQ _ _ _ _) _
 refine nR K (tn 1) <| sq <| nR K (tn 2) ?_
 refine cnd h ?_ ?_<;>intro h
 ·exact nomatch h
 refine VW.skip ?_
 refine VW.join (fun s => ∃ x4, s = ⟨[(0, hh 0)], [ar 0 Y76 x4 .tp]⟩ ∧ F152_j0 N x4 = some r) ?_ ?_
 ·refine sq <| VW.region <| nG K 2 (tn 2) <| VO.capN (d := 10) (v := I (0 : Int)) K (by kernel_rfl) <| nN K (tn 5) <| nR K (tn 2) ?_
  refine cnd h ?_ ?_<;>intro h
  ·refine VW.region <| nG K 2 (tn 2) <| VO.capN (d := 19) (v := I (0 : Int)) K (by kernel_rfl) ?_
   have⟨g6,h⟩:=gS h
   refine VO.cutN (d := 20) (φ := (0 : Int) = (0 : Int)) (v := .lf .nil) K (by kernel_rfl) g6 <| nG K 1 (tn 1) ?_
   have⟨g7,h⟩:=gS h
   refine VO.appZ (d := 22) (φ := 0 ≤ (wr (a1 - (wr ((0 : Int) - (0 : Int))))) ∧ (wr (a1 - (wr ((0 : Int) - (0 : Int))))) ≤ (lim Y76 : Int)) (v := hh 0) (H' := [ar 0 Y76 (List.replicate (wr (a1 - (wr ((0 : Int) - (0 : Int))))).toNat D76) .tp]) K (by kernel_rfl) g7 ?_
   have⟨g8,h⟩:=gS h
   refine nN K (pu 2 (an g8 (tn 1))) ?_
   exact arv [.shr 0, .ren [0] [0]] ⟨((List.replicate (wr (a1 - (wr ((0 : Int) - (0 : Int))))).toNat D76).take ((0 : Int).toNat)), rfl, h⟩
  refine VW.skip ?_
  exact arv [.nilS 0 Y76 .tp, .ren [0] [0]] ⟨[], rfl, h⟩
 rintro s ⟨x4, rfl, h⟩
 unfold F152_j0 at h
 refine nR K (tn 2) ?_
 cases h; exact VW.ret (rt [some 0])
def F112_j0 (N : Nat) (x31 : (List Z76)) : Option ((List Z76)) :=
  some x31
def F112_l0_b (N : Nat) (a0 : (List (List Z76))) (nx45 : (List Z76) → Int → Int → Option ((List Z76))) (x38 : (List Z76)) (x39 : Int) (x40 : Int) : Option ((List Z76)) :=
  cond (decide (x40 < x39)) (gd (InR x40 a0.length) (gd (x38.length + (a0.getD x40.toNat (Ty.dflt (.sl Y76))).length ≤ lim Y76) (nx45 (x38 ++ (a0.getD x40.toNat (Ty.dflt (.sl Y76)))) x39 (IntKind.i64.wrap (x40 + (1 : Int)))))) (F112_j0 N x38)
def F112_l0 (N : Nat) (a0 : (List (List Z76))) := loopF (F112_l0_b N a0) (fun _ _ _ => none)
theorem F112_l0_s N a0 {k} (hk : 0 < k) x38 x39 x40 : F112_l0 N a0 k x38 x39 x40 = F112_l0_b N a0 (F112_l0 N a0 (k - 1)) x38 x39 x40 := by cases k;cases hk;rfl
def F112_j1 (N : Nat) (a0 : (List (List Z76))) (x12 : Int) : Option ((List Z76)) :=
  andO (F152 N ([]) x12) fun y13 => F112_l0 N a0 N y13 (a0.length : Int) (0 : Int)
def F112_l1_b (N : Nat) (a0 : (List (List Z76))) (nx59 : Int → Int → Int → Option ((List Z76))) (x54 : Int) (x55 : Int) (x56 : Int) : Option ((List Z76)) :=
  cond (decide (x56 < x55)) (gd (InR x56 a0.length) (cond (decide ((IntKind.i64.wrap (x54 + ((a0.getD x56.toNat (Ty.dflt (.sl Y76))).length : Int))) < (0 : Int))) (none) (nx59 (IntKind.i64.wrap (x54 + ((a0.getD x56.toNat (Ty.dflt (.sl Y76))).length : Int))) x55 (IntKind.i64.wrap (x56 + (1 : Int)))))) (F112_j1 N a0 x54)
def F112_l1 (N : Nat) (a0 : (List (List Z76))) := loopF (F112_l1_b N a0) (fun _ _ _ => none)
theorem F112_l1_s N a0 {k} (hk : 0 < k) x54 x55 x56 : F112_l1 N a0 k x54 x55 x56 = F112_l1_b N a0 (F112_l1 N a0 (k - 1)) x54 x55 x56 := by cases k;cases hk;rfl
def F112 (N : Nat) (a0 : (List (List Z76))) : Option ((List Z76)) :=
  F112_l1 N a0 N (0 : Int) (a0.length : Int) (0 : Int)
theorem ok112 N a0 {r} (h : F112 N a0 = some r) : Con prog 112 [Vv (.sl (.sl Y76)) a0] [.lf (.own Y76 r .tp)] := by
 refine ctr [.lf (.own Y76 .tp)] K func112 rfl fun w0 E0 ht => ?_
 unfold F112 at h
 show VW _ _ _ _ _ (retQ _ _ _ _) _
 refine nR K (tn 1) <| nR K (tn 1) ?_
 refine VW.join (fun s => ∃ x12, s = ⟨[(0, Vv (.sl (.sl Y76)) a0), (3, I x12)], []⟩ ∧ F112_j1 N a0 x12 = some r) ?_ ?_
 ·refine nR K (tn 3) <| VW.block <| lop (fun k s => ∃ x54 x55 x56, s = ⟨[(0, Vv (.sl (.sl Y76)) a0), (3, I x54), (9, Vv (.sl (.sl Y76)) a0), (10, I x55), (11, I x56)], []⟩ ∧ F112_l1 N a0 k x54 x55 x56 = some r) N [.ren [0, 3, 9, 10, 11] []] ⟨(0 : Int), (a0.length : Int), (0 : Int), rfl, h⟩ ?_
  rintro k59 s ⟨x54, x55, x56, rfl, h⟩
  cases k59 with
  | zero => cases show none = some r from h
  | succ k59 =>
   replace h : F112_l1_b N a0 (F112_l1 N a0 k59) x54 x55 x56 = some r := h
   unfold F112_l1_b at h
   refine nR K (tn 1) <| sq ?_
   refine cnd h ?_ ?_<;>intro h
   ·refine VW.skip <| sq <| VW.block ?_
    have⟨g61,h⟩:=gS h
    refine nR K (an g61 (tn 2)) <| nR K (tn 5) <| nR K (tn 2) ?_
    refine cnd h ?_ ?_<;>intro h
    ·exact nomatch h
    refine VW.skip <| nE K (tn 2) ?_
    exact aro [.ren [0, 3, 9, 10, 11] []] ⟨(wr (x54 + ((a0.getD x56.toNat (Ty.dflt (.sl Y76))).length : Int))), x55, (wr (x56 + (1 : Int))), rfl, h⟩
   refine VW.exit ?_
   exact arv [.ren [0, 3] []] ⟨x54, rfl, h⟩
 rintro s ⟨x12, rfl, h⟩
 unfold F112_j1 at h
 refine sq <| VW.region <| nG K 1 (tn 1) ?_
 have⟨y13,hy,h⟩:=aS h
 refine cal false [.k, .t (.int .i64)] [] (some 24) K (ok152 N _ _ hy) <| nN K (tn 1) ?_
 refine VW.join (fun s => ∃ x31, s = ⟨[(6, hh 0)], [ar 0 Y76 x31 .tp]⟩ ∧ F112_j0 N x31 = some r) ?_ ?_
 ·refine nR K (tn 3) <| VW.block <| lop (fun k s => ∃ x38 x39 x40, s = ⟨[(6, hh 0), (25, Vv (.sl (.sl Y76)) a0), (26, I x39), (27, I x40)], [ar 0 Y76 x38 .tp]⟩ ∧ F112_l0 N a0 k x38 x39 x40 = some r) N [.ren [6, 25, 26, 27] [0]] ⟨y13, (a0.length : Int), (0 : Int), rfl, h⟩ ?_
  rintro k45 s ⟨x38, x39, x40, rfl, h⟩
  cases k45 with
  | zero => cases show none = some r from h
  | succ k45 =>
   replace h : F112_l0_b N a0 (F112_l0 N a0 k45) x38 x39 x40 = some r := h
   unfold F112_l0_b at h
   refine nR K (tn 1) <| sq ?_
   refine cnd h ?_ ?_<;>intro h
   ·refine VW.skip <| sq <| VW.block ?_
    have⟨g48,h⟩:=gS h
    refine nR K (an g48 (tn 2)) ?_
    have⟨g49,h⟩:=gS h
    refine nE K (pu 2 (an g49 (tn 1))) <| nE K (tn 2) ?_
    exact aro [.ren [6, 25, 26, 27] [0]] ⟨(x38 ++ (a0.getD x40.toNat (Ty.dflt (.sl Y76)))), x39, (wr (x40 + (1 : Int))), rfl, h⟩
   refine VW.exit ?_
   exact arv [.ren [6] [0]] ⟨x38, rfl, h⟩
 rintro s ⟨x31, rfl, h⟩
 unfold F112_j0 at h
 refine nR K (tn 2) ?_
 cases h; exact VW.ret (rt [some 0])
def F150_j0 (N : Nat) (a0 : Int) (x3 : Bool) : Option (Int × Int) :=
  cond x3 (some ((1 : Int), (3 : Int))) (cond (a0 == (7 : Int)) (some ((7 : Int), (7 : Int))) (cond (a0 == (8 : Int)) (some ((2 : Int), (2 : Int))) (cond (a0 == (9 : Int)) (some ((6 : Int), (2 : Int))) (cond (a0 == (10 : Int)) (some ((1 : Int), (2 : Int))) (cond (a0 == (11 : Int)) (some ((7 : Int), (5 : Int))) (some ((-1 : Int), (-1 : Int))))))))
def F150 (N : Nat) (a0 : Int) : Option (Int × Int) :=
  cond (a0 == (0 : Int)) (some ((1 : Int), (1 : Int))) (cond (a0 == (1 : Int)) (some ((1 : Int), (5 : Int))) (cond (a0 == (2 : Int)) (some ((6 : Int), (6 : Int))) (cond (a0 == (3 : Int)) (some ((5 : Int), (5 : Int))) (cond (a0 == (4 : Int)) (some ((1 : Int), (4 : Int))) (cond (a0 == (5 : Int)) (F150_j0 N a0 (a0 == (5 : Int))) (F150_j0 N a0 (a0 == (6 : Int))))))))
theorem ok150 N a0 {r} (h : F150 N a0 = some r) : Con prog 150 [I a0] [.lf (.v (.int .i64) r.1), .lf (.v (.int .i64) r.2)] := by
 refine ctr [.lf (.v (.int .i64)), .lf (.v (.int .i64))] K func150 rfl fun w0 E0 ht => ?_
 unfold F150 at h
 show VW _ _ _ _ _ (retQ _ _ _ _) _
 refine nR K (tn 2) <| sq <| nR K (tn 1) <| VW.block <| nR K (tn 2) ?_
 refine cnd h ?_ ?_<;>intro h
 ·refine nR K (tn 2) ?_
  cases h; exact VW.ret (rt [])
 refine nR K (tn 2) ?_
 refine cnd h ?_ ?_<;>intro h
 ·refine nR K (tn 2) ?_
  cases h; exact VW.ret (rt [])
 refine nR K (tn 2) ?_
 refine cnd h ?_ ?_<;>intro h
 ·refine sR K [2, 3] [] ⟨[(2, I (6 : Int)), (3, I (6 : Int))], []⟩ (tn 2) ?_
  cases h; exact VW.ret (rt [])
 refine sR K [4, 11] [] ⟨[(4, I a0), (11, B (a0 == (3 : Int)))], []⟩ (tn 2) ?_
 refine cnd h ?_ ?_<;>intro h
 ·refine nR K (tn 2) ?_
  cases h; exact VW.ret (rt [])
 refine nR K (tn 2) ?_
 refine cnd h ?_ ?_<;>intro h
 ·refine nR K (tn 2) ?_
  cases h; exact VW.ret (rt [])
 refine VW.join (fun s => ∃ x3, s = ⟨[(4, I a0), (15, B x3)], []⟩ ∧ F150_j0 N a0 x3 = some r) ?_ ?_
 ·refine nR K (tn 2) ?_
  refine cnd h ?_ ?_<;>intro h
  ·refine VW.skip ?_
   exact arv [.ren [4, 15] []] ⟨(a0 == (5 : Int)), rfl, h⟩
  refine nE K (tn 2) ?_
  exact arv [.ren [4, 15] []] ⟨(a0 == (6 : Int)), rfl, h⟩
 rintro s ⟨x3, rfl, h⟩
 unfold F150_j0 at h
 refine cnd h ?_ ?_<;>intro h
 ·refine nR K (tn 2) ?_
  cases h; exact VW.ret (rt [])
 refine nR K (tn 2) ?_
 refine cnd h ?_ ?_<;>intro h
 ·refine nR K (tn 2) ?_
  cases h; exact VW.ret (rt [])
 refine nR K (tn 2) ?_
 refine cnd h ?_ ?_<;>intro h
 ·refine nR K (tn 2) ?_
  cases h; exact VW.ret (rt [])
 refine nR K (tn 2) ?_
 refine cnd h ?_ ?_<;>intro h
 ·refine nR K (tn 2) ?_
  cases h; exact VW.ret (rt [])
 refine nR K (tn 2) ?_
 refine cnd h ?_ ?_<;>intro h
 ·refine nR K (tn 2) ?_
  cases h; exact VW.ret (rt [])
 refine nR K (tn 2) ?_
 refine cnd h ?_ ?_<;>intro h
 ·refine sR K [2, 3] [] ⟨[(2, I (7 : Int)), (3, I (5 : Int))], []⟩ (tn 2) ?_
  cases h; exact VW.ret (rt [])
 refine VW.skip <| sR K [2, 3] [] ⟨[(2, I (-1 : Int)), (3, I (-1 : Int))], []⟩ (tn 2) ?_
 cases h; exact VW.ret (rt [])
def F111_j0 (N : Nat) (x148 : (List Z76)) (x149 : (List Z76)) (x150 : (List Z76)) : Option ((List Z76) × Bool) :=
  andO (F112 N ([x149, x148, x150])) fun y151 => some (y151, true)
def F111_j1 (N : Nat) (x178 : (List Z76)) (x181 : (List Z76)) (x242 : (List Int)) : Option ((List Z76) × Bool) :=
  gd (0 < x178.length) (gd (0 < (x178.set 0 ((x178.getD 0 (Ty.dflt Y76)).1, ((x178.getD 0 (Ty.dflt Y76)).2.1, ((x178.getD 0 (Ty.dflt Y76)).2.2.1, ((x178.getD 0 (Ty.dflt Y76)).2.2.2.1, ((x178.getD 0 (Ty.dflt Y76)).2.2.2.2.1, ((x178.getD 0 (Ty.dflt Y76)).2.2.2.2.2.1, x242))))))).length) (andO (F112 N ([[((x178.set 0 ((x178.getD 0 (Ty.dflt Y76)).1, ((x178.getD 0 (Ty.dflt Y76)).2.1, ((x178.getD 0 (Ty.dflt Y76)).2.2.1, ((x178.getD 0 (Ty.dflt Y76)).2.2.2.1, ((x178.getD 0 (Ty.dflt Y76)).2.2.2.2.1, ((x178.getD 0 (Ty.dflt Y76)).2.2.2.2.2.1, x242))))))).getD 0 (Ty.dflt Y76))], x181])) fun y245 => some (y245, true)))
def F111_l0_b (N : Nat) (x178 : (List Z76)) (x181 : (List Z76)) (nx270 : (List Int) → (List Int) → Int → Int → Option ((List Z76) × Bool)) (x258 : (List Int)) (x259 : (List Int)) (x260 : Int) (x261 : Int) : Option ((List Z76) × Bool) :=
  cond (decide (x261 < x260)) (gd (InR x261 x259.length) (gd (0 < x178.length) (gd (InR (x259.getD x261.toNat (Ty.dflt (.int .i64))) ((x178.getD 0 (Ty.dflt Y76)).2.2.2.2.2.2).length) (gd (x258.length + ([(((x178.getD 0 (Ty.dflt Y76)).2.2.2.2.2.2).getD (x259.getD x261.toNat (Ty.dflt (.int .i64))).toNat (Ty.dflt (.int .i64)))]).length ≤ lim (.int .i64)) (nx270 (x258 ++ ([(((x178.getD 0 (Ty.dflt Y76)).2.2.2.2.2.2).getD (x259.getD x261.toNat (Ty.dflt (.int .i64))).toNat (Ty.dflt (.int .i64)))])) x259 x260 (IntKind.i64.wrap (x261 + (1 : Int)))))))) (F111_j1 N x178 x181 x258)
def F111_l0 (N : Nat) (x178 : (List Z76)) (x181 : (List Z76)) := loopF (F111_l0_b N x178 x181) (fun _ _ _ _ => none)
theorem F111_l0_s N x178 x181 {k} (hk : 0 < k) x258 x259 x260 x261 : F111_l0 N x178 x181 k x258 x259 x260 x261 = F111_l0_b N x178 x181 (F111_l0 N x178 x181 (k - 1)) x258 x259 x260 x261 := by cases k;cases hk;rfl
def F111_j2 (N : Nat) (a0 : (List Z82)) (a1 : (List Z76)) (y10 : (List Int)) (y11 : Int) (x175 : Int) (x176 : Int) (x177 : (List Z76)) (x178 : (List Z76)) (x179 : (List Z76)) (x180 : (List Z76)) (x181 : (List Z76)) (x182 : Int) (x183 : Bool) : Option ((List Z76) × Bool) :=
  cond x183 (gd (InR (0 : Int) y10.length) (gd ((0 : Int).toNat < y10.length) (andO (F149 N a0 a1 (y10.getD ((0 : Int).toNat) (Ty.dflt (.int .i64)))) fun y186 => cond (x175 == (5 : Int)) (gd (InR (0 : Int) y10.length) (gd ((0 : Int).toNat < y10.length) (gd (0 ≤ (y10.getD ((0 : Int).toNat) (Ty.dflt (.int .i64))) ∧ (y10.getD ((0 : Int).toNat) (Ty.dflt (.int .i64))) ≤ y11 ∧ y11 ≤ (a1.length : Int)) (andO (F112 N ([x180, x179, ((a1.take y11.toNat).drop (y10.getD ((0 : Int).toNat) (Ty.dflt (.int .i64))).toNat)])) fun y195 => gd (0 < x177.length) (some (y195, (decide (((x177.getD 0 (Ty.dflt Y76)).2.2.1) < y186)))))))) (gd (0 < x177.length) (gd (0 < x177.length) (gd (InR (0 : Int) y10.length) (gd ((0 : Int).toNat < y10.length) (gd (InR (1 : Int) y10.length) (gd ((1 : Int).toNat < y10.length) (gd (0 ≤ (y10.getD ((0 : Int).toNat) (Ty.dflt (.int .i64))) ∧ (y10.getD ((0 : Int).toNat) (Ty.dflt (.int .i64))) ≤ (y10.getD ((1 : Int).toNat) (Ty.dflt (.int .i64))) ∧ (y10.getD ((1 : Int).toNat) (Ty.dflt (.int .i64))) ≤ (a1.length : Int)) (gd (0 < (x177.set 0 ((x177.getD 0 (Ty.dflt Y76)).1, ((x177.getD 0 (Ty.dflt Y76)).2.1, ((IntKind.i64.wrap (((x177.getD 0 (Ty.dflt Y76)).2.2.1) - y186)), ((x177.getD 0 (Ty.dflt Y76)).2.2.2.1, ((x177.getD 0 (Ty.dflt Y76)).2.2.2.2.1, ((x177.getD 0 (Ty.dflt Y76)).2.2.2.2.2.1, (x177.getD 0 (Ty.dflt Y76)).2.2.2.2.2.2))))))).length) (gd (InR (1 : Int) y10.length) (gd ((1 : Int).toNat < y10.length) (gd (0 ≤ (y10.getD ((1 : Int).toNat) (Ty.dflt (.int .i64))) ∧ (y10.getD ((1 : Int).toNat) (Ty.dflt (.int .i64))) ≤ y11 ∧ y11 ≤ (a1.length : Int)) (andO (F112 N ([x180, ((a1.take (y10.getD ((1 : Int).toNat) (Ty.dflt (.int .i64))).toNat).drop (y10.getD ((0 : Int).toNat) (Ty.dflt (.int .i64))).toNat), [((x177.set 0 ((x177.getD 0 (Ty.dflt Y76)).1, ((x177.getD 0 (Ty.dflt Y76)).2.1, ((IntKind.i64.wrap (((x177.getD 0 (Ty.dflt Y76)).2.2.1) - y186)), ((x177.getD 0 (Ty.dflt Y76)).2.2.2.1, ((x177.getD 0 (Ty.dflt Y76)).2.2.2.2.1, ((x177.getD 0 (Ty.dflt Y76)).2.2.2.2.2.1, (x177.getD 0 (Ty.dflt Y76)).2.2.2.2.2.2))))))).getD 0 (Ty.dflt Y76))], ((a1.take y11.toNat).drop (y10.getD ((1 : Int).toNat) (Ty.dflt (.int .i64))).toNat)])) fun y208 => gd (0 < (x177.set 0 ((x177.getD 0 (Ty.dflt Y76)).1, ((x177.getD 0 (Ty.dflt Y76)).2.1, ((IntKind.i64.wrap (((x177.getD 0 (Ty.dflt Y76)).2.2.1) - y186)), ((x177.getD 0 (Ty.dflt Y76)).2.2.2.1, ((x177.getD 0 (Ty.dflt Y76)).2.2.2.2.1, ((x177.getD 0 (Ty.dflt Y76)).2.2.2.2.2.1, (x177.getD 0 (Ty.dflt Y76)).2.2.2.2.2.2))))))).length) (some (y208, (decide ((((x177.set 0 ((x177.getD 0 (Ty.dflt Y76)).1, ((x177.getD 0 (Ty.dflt Y76)).2.1, ((IntKind.i64.wrap (((x177.getD 0 (Ty.dflt Y76)).2.2.1) - y186)), ((x177.getD 0 (Ty.dflt Y76)).2.2.2.1, ((x177.getD 0 (Ty.dflt Y76)).2.2.2.2.1, ((x177.getD 0 (Ty.dflt Y76)).2.2.2.2.2.1, (x177.getD 0 (Ty.dflt Y76)).2.2.2.2.2.2))))))).getD 0 (Ty.dflt Y76)).2.2.1) ≥ (0 : Int)))))))))))))))))))) (cond (x182 == (8 : Int)) (gd (0 < x177.length) (F111_l0 N x178 x181 N ([]) ((x177.getD 0 (Ty.dflt Y76)).2.2.2.2.2.2) (((x177.getD 0 (Ty.dflt Y76)).2.2.2.2.2.2).length : Int) (0 : Int))) (cond (x182 == (10 : Int)) (gd (0 < x178.length) (gd (0 < x177.length) (gd (InR ((x177.getD 0 (Ty.dflt Y76)).2.2.1) ((x178.getD 0 (Ty.dflt Y76)).2.2.2.2.2.2).length) (gd (0 < x177.length) (gd (0 < (x177.set 0 ((x177.getD 0 (Ty.dflt Y76)).1, ((x177.getD 0 (Ty.dflt Y76)).2.1, ((((x178.getD 0 (Ty.dflt Y76)).2.2.2.2.2.2).getD ((x177.getD 0 (Ty.dflt Y76)).2.2.1).toNat (Ty.dflt (.int .i64))), ((x177.getD 0 (Ty.dflt Y76)).2.2.2.1, ((x177.getD 0 (Ty.dflt Y76)).2.2.2.2.1, ((x177.getD 0 (Ty.dflt Y76)).2.2.2.2.2.1, (x177.getD 0 (Ty.dflt Y76)).2.2.2.2.2.2))))))).length) (andO (F112 N ([x180, [((x177.set 0 ((x177.getD 0 (Ty.dflt Y76)).1, ((x177.getD 0 (Ty.dflt Y76)).2.1, ((((x178.getD 0 (Ty.dflt Y76)).2.2.2.2.2.2).getD ((x177.getD 0 (Ty.dflt Y76)).2.2.1).toNat (Ty.dflt (.int .i64))), ((x177.getD 0 (Ty.dflt Y76)).2.2.2.1, ((x177.getD 0 (Ty.dflt Y76)).2.2.2.2.1, ((x177.getD 0 (Ty.dflt Y76)).2.2.2.2.2.1, (x177.getD 0 (Ty.dflt Y76)).2.2.2.2.2.2))))))).getD 0 (Ty.dflt Y76))], x181])) fun y284 => some (y284, true))))))) (F111_j0 N x179 x180 x181)))
def F111 (N : Nat) (a0 : (List Z82)) (a1 : (List Z76)) (a2 : Z35) : Option ((List Z76) × Bool) :=
  andO (F150 N a2.1) fun y1 => cond (decide (y1.1 < (0 : Int))) (some ([], false)) (gd (InR a2.2 a1.length) (cond (((a1.getD a2.2.toNat (Ty.dflt Y76)).1) != y1.1) (some ([], false)) (gd (InR (IntKind.i64.wrap (a2.2 + (1 : Int))) a1.length) (cond (((a1.getD (IntKind.i64.wrap (a2.2 + (1 : Int))).toNat (Ty.dflt Y76)).1) != y1.2) (some ([], false)) (gd (InR a2.2 a1.length) (gd (InR (IntKind.i64.wrap (a2.2 + (1 : Int))) a1.length) (gd (0 < ([Ty.dflt Y76]).length) (gd (0 < ([Ty.dflt Y76]).length) (andO (F151 N a1 (IntKind.i64.wrap (a2.2 + (1 : Int)))) fun y10 => andO (F113 N a1 a2.2 (1 : Int)) fun y11 => gd (0 < (([Ty.dflt Y76]).set 0 (a1.getD a2.2.toNat (Ty.dflt Y76))).length) (gd (0 < (([Ty.dflt Y76]).set 0 (a1.getD (IntKind.i64.wrap (a2.2 + (1 : Int))).toNat (Ty.dflt Y76))).length) (gd (0 ≤ (IntKind.i64.wrap (a2.2 + (2 : Int))) ∧ (IntKind.i64.wrap (a2.2 + (2 : Int))) ≤ y11 ∧ y11 ≤ (a1.length : Int)) (cond (a2.1 == (2 : Int)) (gd (0 < (([Ty.dflt Y76]).set 0 (a1.getD a2.2.toNat (Ty.dflt Y76))).length) (cond (((([Ty.dflt Y76]).set 0 (a1.getD a2.2.toNat (Ty.dflt Y76))).getD 0 (Ty.dflt Y76)).2.2.2.2.2.1) (some ([], false)) (gd (0 < (([Ty.dflt Y76]).set 0 (a1.getD (IntKind.i64.wrap (a2.2 + (1 : Int))).toNat (Ty.dflt Y76))).length) (cond (((([Ty.dflt Y76]).set 0 (a1.getD (IntKind.i64.wrap (a2.2 + (1 : Int))).toNat (Ty.dflt Y76))).getD 0 (Ty.dflt Y76)).2.2.2.2.2.1) (some ([], false)) (gd (0 < (([Ty.dflt Y76]).set 0 (a1.getD a2.2.toNat (Ty.dflt Y76))).length) (gd (0 < (([Ty.dflt Y76]).set 0 (a1.getD (IntKind.i64.wrap (a2.2 + (1 : Int))).toNat (Ty.dflt Y76))).length) (gd (0 < (([Ty.dflt Y76]).set 0 (a1.getD a2.2.toNat (Ty.dflt Y76))).length) (gd (0 < (([Ty.dflt Y76]).set 0 ((a1.getD a2.2.toNat (Ty.dflt Y76)).1, ((a1.getD a2.2.toNat (Ty.dflt Y76)).2.1, ((a1.getD a2.2.toNat (Ty.dflt Y76)).2.2.1, ((a1.getD a2.2.toNat (Ty.dflt Y76)).2.2.2.1, ((if (((([Ty.dflt Y76]).set 0 (a1.getD (IntKind.i64.wrap (a2.2 + (1 : Int))).toNat (Ty.dflt Y76))).getD 0 (Ty.dflt Y76)).2.2.2.2.1 : Int) < ((([Ty.dflt Y76]).set 0 (a1.getD a2.2.toNat (Ty.dflt Y76))).getD 0 (Ty.dflt Y76)).2.2.2.2.1 then ((([Ty.dflt Y76]).set 0 (a1.getD (IntKind.i64.wrap (a2.2 + (1 : Int))).toNat (Ty.dflt Y76))).getD 0 (Ty.dflt Y76)).2.2.2.2.1 else ((([Ty.dflt Y76]).set 0 (a1.getD a2.2.toNat (Ty.dflt Y76))).getD 0 (Ty.dflt Y76)).2.2.2.2.1), ((a1.getD a2.2.toNat (Ty.dflt Y76)).2.2.2.2.2.1, (a1.getD a2.2.toNat (Ty.dflt Y76)).2.2.2.2.2.2))))))).length) (andO (F112 N ([[((([Ty.dflt Y76]).set 0 ((a1.getD a2.2.toNat (Ty.dflt Y76)).1, ((a1.getD a2.2.toNat (Ty.dflt Y76)).2.1, ((a1.getD a2.2.toNat (Ty.dflt Y76)).2.2.1, ((a1.getD a2.2.toNat (Ty.dflt Y76)).2.2.2.1, ((if (((([Ty.dflt Y76]).set 0 (a1.getD (IntKind.i64.wrap (a2.2 + (1 : Int))).toNat (Ty.dflt Y76))).getD 0 (Ty.dflt Y76)).2.2.2.2.1 : Int) < ((([Ty.dflt Y76]).set 0 (a1.getD a2.2.toNat (Ty.dflt Y76))).getD 0 (Ty.dflt Y76)).2.2.2.2.1 then ((([Ty.dflt Y76]).set 0 (a1.getD (IntKind.i64.wrap (a2.2 + (1 : Int))).toNat (Ty.dflt Y76))).getD 0 (Ty.dflt Y76)).2.2.2.2.1 else ((([Ty.dflt Y76]).set 0 (a1.getD a2.2.toNat (Ty.dflt Y76))).getD 0 (Ty.dflt Y76)).2.2.2.2.1), ((a1.getD a2.2.toNat (Ty.dflt Y76)).2.2.2.2.2.1, (a1.getD a2.2.toNat (Ty.dflt Y76)).2.2.2.2.2.2))))))).getD 0 (Ty.dflt Y76))], ((a1.take y11.toNat).drop (IntKind.i64.wrap (a2.2 + (2 : Int))).toNat)])) fun y161 => some (y161, true)))))))))) (cond (a2.1 == (3 : Int)) (andO (F112 N ([[((([Ty.dflt Y76]).set 0 (a1.getD (IntKind.i64.wrap (a2.2 + (1 : Int))).toNat (Ty.dflt Y76))).getD 0 (Ty.dflt Y76))], ((a1.take y11.toNat).drop (IntKind.i64.wrap (a2.2 + (2 : Int))).toNat)])) fun y162 => gd (0 < (([Ty.dflt Y76]).set 0 (a1.getD a2.2.toNat (Ty.dflt Y76))).length) (gd (0 < (([Ty.dflt Y76]).set 0 (a1.getD (IntKind.i64.wrap (a2.2 + (1 : Int))).toNat (Ty.dflt Y76))).length) (some (y162, ((((([Ty.dflt Y76]).set 0 (a1.getD a2.2.toNat (Ty.dflt Y76))).getD 0 (Ty.dflt Y76)).2.2.1) == (((([Ty.dflt Y76]).set 0 (a1.getD (IntKind.i64.wrap (a2.2 + (1 : Int))).toNat (Ty.dflt Y76))).getD 0 (Ty.dflt Y76)).2.2.1)))))) (cond (a2.1 == (7 : Int)) (andO (F112 N ([[((([Ty.dflt Y76]).set 0 (a1.getD (IntKind.i64.wrap (a2.2 + (1 : Int))).toNat (Ty.dflt Y76))).getD 0 (Ty.dflt Y76))], ((a1.take y11.toNat).drop (IntKind.i64.wrap (a2.2 + (2 : Int))).toNat)])) fun y165 => some (y165, true)) (cond (a2.1 == (4 : Int)) (gd (InR (0 : Int) y10.length) (gd ((0 : Int).toNat < y10.length) (gd (InR (1 : Int) y10.length) (gd ((1 : Int).toNat < y10.length) (gd (0 ≤ (y10.getD ((0 : Int).toNat) (Ty.dflt (.int .i64))) ∧ (y10.getD ((0 : Int).toNat) (Ty.dflt (.int .i64))) ≤ (y10.getD ((1 : Int).toNat) (Ty.dflt (.int .i64))) ∧ (y10.getD ((1 : Int).toNat) (Ty.dflt (.int .i64))) ≤ (a1.length : Int)) (gd (InR (1 : Int) y10.length) (gd ((1 : Int).toNat < y10.length) (gd (0 ≤ (y10.getD ((1 : Int).toNat) (Ty.dflt (.int .i64))) ∧ (y10.getD ((1 : Int).toNat) (Ty.dflt (.int .i64))) ≤ y11 ∧ y11 ≤ (a1.length : Int)) (andO (F112 N ([[((([Ty.dflt Y76]).set 0 (a1.getD (IntKind.i64.wrap (a2.2 + (1 : Int))).toNat (Ty.dflt Y76))).getD 0 (Ty.dflt Y76))], [((([Ty.dflt Y76]).set 0 (a1.getD a2.2.toNat (Ty.dflt Y76))).getD 0 (Ty.dflt Y76))], ((a1.take (y10.getD ((1 : Int).toNat) (Ty.dflt (.int .i64))).toNat).drop (y10.getD ((0 : Int).toNat) (Ty.dflt (.int .i64))).toNat), [((([Ty.dflt Y76]).set 0 (a1.getD a2.2.toNat (Ty.dflt Y76))).getD 0 (Ty.dflt Y76))], ((a1.take y11.toNat).drop (y10.getD ((1 : Int).toNat) (Ty.dflt (.int .i64))).toNat)])) fun y174 => some (y174, true)))))))))) (cond (a2.1 == (5 : Int)) (F111_j2 N a0 a1 y10 y11 a2.1 a2.2 (([Ty.dflt Y76]).set 0 (a1.getD a2.2.toNat (Ty.dflt Y76))) (([Ty.dflt Y76]).set 0 (a1.getD (IntKind.i64.wrap (a2.2 + (1 : Int))).toNat (Ty.dflt Y76))) ([((([Ty.dflt Y76]).set 0 (a1.getD a2.2.toNat (Ty.dflt Y76))).getD 0 (Ty.dflt Y76))]) ([((([Ty.dflt Y76]).set 0 (a1.getD (IntKind.i64.wrap (a2.2 + (1 : Int))).toNat (Ty.dflt Y76))).getD 0 (Ty.dflt Y76))]) ((a1.take y11.toNat).drop (IntKind.i64.wrap (a2.2 + (2 : Int))).toNat) a2.1 (a2.1 == (5 : Int))) (F111_j2 N a0 a1 y10 y11 a2.1 a2.2 (([Ty.dflt Y76]).set 0 (a1.getD a2.2.toNat (Ty.dflt Y76))) (([Ty.dflt Y76]).set 0 (a1.getD (IntKind.i64.wrap (a2.2 + (1 : Int))).toNat (Ty.dflt Y76))) ([((([Ty.dflt Y76]).set 0 (a1.getD a2.2.toNat (Ty.dflt Y76))).getD 0 (Ty.dflt Y76))]) ([((([Ty.dflt Y76]).set 0 (a1.getD (IntKind.i64.wrap (a2.2 + (1 : Int))).toNat (Ty.dflt Y76))).getD 0 (Ty.dflt Y76))]) ((a1.take y11.toNat).drop (IntKind.i64.wrap (a2.2 + (2 : Int))).toNat) a2.1 (a2.1 == (6 : Int)))))))))))))))))))
theorem ok111 N a0 a1 a2 {r} (h : F111 N a0 a1 a2 = some r) : Con prog 111 [Vv (.sl Y82) a0, Vv (.sl Y76) a1, .agg (lv Y35 a2)] [.lf (.own Y76 r.1 .tp), .lf (.v .bool r.2)] := by
 refine ctr [.lf (.own Y76 .tp), .lf (.v .bool)] K func111 rfl fun w0 E0 ht => ?_
 unfold F111 at h
 show VW _ _ _ _ _ (retQ _ _ _ _) _
 refine nR K (tn 3) <| sq <| VW.region <| nG K 2 (tn 2) ?_
 have⟨y1,hy,h⟩:=aS h
 refine cal false [.t (.int .i64)] [] (some 24) K (ok150 N _ hy) <| nN K (tn 5) <| sq <| sq <| VW.region <| nG K 3 (tn 3) ?_
 refine spB 29 h ?_ ?_<;>intro h
 ·refine nN K (tn 20) ?_
  refine VW.cond (b := true) (by kernel_rfl) (fun _ => ?_) (fun h' => nomatch h')
  refine sR K [6, 7] [] ⟨[(6, .lf (.nil)), (7, B false)], []⟩ (tn 2) ?_
  cases h; exact VW.ret (rt [none])
 have⟨g4,h⟩:=gS h
 refine nG K 10 (pu 3 (an g4 (tn 6))) ?_
 refine spB 39 h ?_ ?_<;>intro h
 ·refine sNh K [0, 1, 5, 49] [0] [(0, Vv (.sl Y82) a0), (1, Vv (.sl Y76) a1), (5, .lf (.ptr 0 0 0 0)), (49, B true)] (tn 10) ?_
  refine VW.cond (b := true) (by kernel_rfl) (fun _ => ?_) (fun h' => nomatch h')
  refine nR K (tn 2) ?_
  cases h; exact VW.ret (rt [none])
 have⟨g5,h⟩:=gS h
 refine sNh K [0, 1, 5, 49] [0] [(0, Vv (.sl Y82) a0), (1, Vv (.sl Y76) a1), (5, .lf (.ptr 0 0 0 0)), (49, B (((a1.getD (wr (a2.2 + (1 : Int))).toNat D76).1) != y1.2))] (pu 4 (an g5 (tn 5))) ?_
 refine cnd h ?_ ?_<;>intro h
 ·refine nR K (tn 2) ?_
  cases h; exact VW.ret (rt [none])
 refine VW.skip <| sq ?_
 have⟨g6,h⟩:=gS h
 have⟨g7,h⟩:=gS h
 have⟨g8,h⟩:=gS h
 have⟨g9,h⟩:=gS h
 refine VW.gh (Gh.rsv Y76 .tp (by decide)) <| VW.gh (Gh.rsv Y76 .tp (by decide)) ?_
 refine VW.drawnM (by kernel_rfl) [some (50, Vv (.sl Y76) a1), some (51, .lf (.ptr 0 0 0 1)), some (52, I a2.2), some (53, .lf (.fp Y76 (a1.getD a2.2.toNat D76) 0)), some (54, .agg (lv Y76 (a1.getD a2.2.toNat D76))), some (55, Vv (.sl Y76) a1), some (56, .lf (.ptr 0 0 0 1)), some (57, I a2.2), some (58, I (wr (a2.2 + (1 : Int)))), some (59, .lf (.fp Y76 (a1.getD (wr (a2.2 + (1 : Int))).toNat D76) 0)), some (60, .agg (lv Y76 (a1.getD (wr (a2.2 + (1 : Int))).toNat D76))), some (10, .lf (.ptr 1 1 0 0)), some (11, .lf (.ptr 2 1 0 0)), none, none] [11, 12, 13, 14] [(0, [bx (lv Y35 a2) 42, ar 0 Y76 ([]) .tp, ar 0 Y76 ([]) .tp]), (1, [bx (lv Y35 a2) 42, ar 1 Y76 ([Ty.dflt Y76]) .tp, ar 0 Y76 ([]) .tp]), (2, [bx (lv Y35 a2) 42, ar 0 Y76 ([]) .tp, ar 1 Y76 ([Ty.dflt Y76]) .tp]), (3, [bx (lv Y35 a2) 42, ar 1 Y76 ([Ty.dflt Y76]) .tp, ar 1 Y76 ([Ty.dflt Y76]) .tp]), (7, [bx (lv Y35 a2) 42, ar 1 Y76 (([Ty.dflt Y76]).set 0 (a1.getD a2.2.toNat D76)) .tp, ar 1 Y76 ([Ty.dflt Y76]) .tp]), (15, [bx (lv Y35 a2) 42, ar 1 Y76 (([Ty.dflt Y76]).set 0 (a1.getD a2.2.toNat D76)) .tp, ar 1 Y76 (([Ty.dflt Y76]).set 0 (a1.getD (wr (a2.2 + (1 : Int))).toNat D76)) .tp])] [(0, 0), (0, 1), (0, 2), (0, 3), (1, 0), (1, 1), (1, 2), (1, 3), (2, 0), (2, 1), (2, 2), (2, 3), (3, 0), (3, 1), (3, 2), (3, 3), (4, 0), (4, 1), (4, 2), (4, 3), (5, 0), (5, 1), (5, 2), (5, 3), (5, 7), (6, 0), (6, 1), (6, 2), (6, 3), (6, 7), (7, 0), (7, 1), (7, 2), (7, 3), (7, 7), (8, 0), (8, 1), (8, 2), (8, 3), (8, 7), (9, 0), (9, 1), (9, 2), (9, 3), (9, 7), (10, 0), (10, 1), (10, 2), (10, 3), (10, 7), (11, 0), (11, 2), (12, 0), (12, 1), (13, 3), (14, 7)] [0, 1, 5, 10, 11] [0, 1, 2] (s' := ⟨[(0, Vv (.sl Y82) a0), (1, Vv (.sl Y76) a1), (5, .lf (.ptr 0 0 0 0)), (10, .lf (.ptr 1 0 0 0)), (11, .lf (.ptr 2 0 0 0))], [bx (lv Y35 a2) 42, ar 0 Y76 (([Ty.dflt Y76]).set 0 (a1.getD a2.2.toNat D76)) .tp, ar 0 Y76 (([Ty.dflt Y76]).set 0 (a1.getD (wr (a2.2 + (1 : Int))).toNat D76)) .tp]⟩) (by kernel_rfl) (by kernel_rfl) ⟨mT K,
    mT K,
    mT K,
    mT K,
    mT K,
    mT K,
    mT K,
    mT K,
    mT K,
    mT K,
    mT K,
    mT K,
    ⟨_, rfl, Stp.ev K (m := .dp) (φ := InR a2.2 a1.length) (by kernel_rfl) g6⟩,
    ⟨_, rfl, Stp.ev K (m := .dp) (φ := InR a2.2 a1.length) (by kernel_rfl) g6⟩,
    ⟨_, rfl, Stp.ev K (m := .dp) (φ := InR a2.2 a1.length) (by kernel_rfl) g6⟩,
    ⟨_, rfl, Stp.ev K (m := .dp) (φ := InR a2.2 a1.length) (by kernel_rfl) g6⟩,
    mT K,
    mT K,
    mT K,
    mT K,
    mT K,
    mT K,
    mT K,
    mT K,
    mT K,
    mT K,
    mT K,
    mT K,
    mT K,
    mT K,
    mT K,
    mT K,
    mT K,
    mT K,
    mT K,
    mT K,
    mT K,
    mT K,
    mT K,
    mT K,
    ⟨_, rfl, Stp.ev K (m := .dp) (φ := InR (wr (a2.2 + (1 : Int))) a1.length) (by kernel_rfl) g7⟩,
    ⟨_, rfl, Stp.ev K (m := .dp) (φ := InR (wr (a2.2 + (1 : Int))) a1.length) (by kernel_rfl) g7⟩,
    ⟨_, rfl, Stp.ev K (m := .dp) (φ := InR (wr (a2.2 + (1 : Int))) a1.length) (by kernel_rfl) g7⟩,
    ⟨_, rfl, Stp.ev K (m := .dp) (φ := InR (wr (a2.2 + (1 : Int))) a1.length) (by kernel_rfl) g7⟩,
    ⟨_, rfl, Stp.ev K (m := .dp) (φ := InR (wr (a2.2 + (1 : Int))) a1.length) (by kernel_rfl) g7⟩,
    mT K,
    mT K,
    mT K,
    mT K,
    mT K,
    ⟨_, rfl, Stp.allocAt 1 K (by kernel_rfl)⟩,
    ⟨_, rfl, Stp.allocAt 1 K (by kernel_rfl)⟩,
    ⟨_, rfl, Stp.allocAt 2 K (by kernel_rfl)⟩,
    ⟨_, rfl, Stp.allocAt 2 K (by kernel_rfl)⟩,
    ⟨_, rfl, Stp.ev K (m := .dp) (φ := 0 < ([Ty.dflt Y76]).length) (by kernel_rfl) g8⟩,
    ⟨_, rfl, Stp.ev K (m := .dp) (φ := 0 < ([Ty.dflt Y76]).length) (by kernel_rfl) g9⟩, trivial⟩ (by kernel_rfl) ?_
 refine sq <| VW.region <| nG K 4 (tn 4) ?_
 have⟨y10,hy,h⟩:=aS h
 refine cal false [.t (.sl Y76), .t (.int .i64)] [] (some 65) K (ok151 N _ _ hy) <| nN K (tn 1) <| sq <| VW.region <| nG K 3 (tn 3) ?_
 have⟨y11,hy,h⟩:=aS h
 refine cal false [.t (.sl Y76), .t (.int .i64), .t (.int .i64)] [] (some 69) K (ok113 N _ _ _ hy) <| nN K (tn 1) ?_
 have⟨g12,h⟩:=gS h
 refine nR K (an g12 (tn 2)) ?_
 have⟨g13,h⟩:=gS h
 refine sR K [0, 1, 5, 10, 11, 12, 13, 14, 15] [0, 1, 2, 3, 4, 5] ⟨[(0, Vv (.sl Y82) a0), (1, Vv (.sl Y76) a1), (5, .lf (.ptr 0 0 0 0)), (10, .lf (.ptr 1 0 0 0)), (11, .lf (.ptr 2 0 0 0)), (12, hh 3), (13, I y11), (14, hh 4), (15, hh 5)], [bx (lv Y35 a2) 42, ar 0 Y76 (([Ty.dflt Y76]).set 0 (a1.getD a2.2.toNat D76)) .tp, ar 0 Y76 (([Ty.dflt Y76]).set 0 (a1.getD (wr (a2.2 + (1 : Int))).toNat D76)) .tp, ar 0 (.int .i64) y10 .dp, ar 0 Y76 ([((([Ty.dflt Y76]).set 0 (a1.getD a2.2.toNat D76)).getD 0 D76)]) .tp, ar 0 Y76 ([((([Ty.dflt Y76]).set 0 (a1.getD (wr (a2.2 + (1 : Int))).toNat D76)).getD 0 D76)]) .tp]⟩ (an g13 (tn 2)) ?_
 have⟨g14,h⟩:=gS h
 refine nR K (pu 5 (an g14 (tn 1))) ?_
 refine VW.join (fun s => ∃ x148 x149 x150, s = ⟨[(14, hh 0), (15, hh 1), (16, Vv (.sl Y76) x150)], [ar 0 Y76 x148 .tp, ar 0 Y76 x149 .tp]⟩ ∧ F111_j0 N x148 x149 x150 = some r) ?_ ?_
 ·refine nR K (tn 2) <| VW.block <| nR K (tn 2) ?_
  refine cnd h ?_ ?_<;>intro h
  ·refine sq <| sq <| VW.region ?_
   have⟨g155,h⟩:=gS h
   refine nG K 3 (pu 1 (an g155 (tn 1))) ?_
   refine spB 86 h ?_ ?_<;>intro h
   ·refine nN K (tn 3) ?_
    refine VW.cond (b := true) (by kernel_rfl) (fun _ => ?_) (fun h' => nomatch h')
    refine sR K [6, 7] [] ⟨[(6, .lf (.nil)), (7, B false)], []⟩ (tn 2) ?_
    cases h; exact VW.ret (rt [none])
   have⟨g156,h⟩:=gS h
   refine nN K (pu 1 (an g156 (tn 1))) ?_
   refine cnd h ?_ ?_<;>intro h
   ·refine sR K [6, 7] [] ⟨[(6, .lf (.nil)), (7, B false)], []⟩ (tn 2) ?_
    cases h; exact VW.ret (rt [none])
   refine VW.skip <| sq <| VW.region ?_
   have⟨g157,h⟩:=gS h
   have⟨g158,h⟩:=gS h
   have⟨g159,h⟩:=gS h
   refine sG K 7 [10, 16] [1] ⟨[(10, .lf (.ptr 0 0 0 0)), (16, Vv (.sl Y76) ((a1.take y11.toNat).drop (wr (a2.2 + (2 : Int))).toNat))], [ar 0 Y76 ((([Ty.dflt Y76]).set 0 (a1.getD a2.2.toNat D76)).set 0 (((([Ty.dflt Y76]).set 0 (a1.getD a2.2.toNat D76)).getD 0 D76).1, (((([Ty.dflt Y76]).set 0 (a1.getD a2.2.toNat D76)).getD 0 D76).2.1, (((([Ty.dflt Y76]).set 0 (a1.getD a2.2.toNat D76)).getD 0 D76).2.2.1, (((([Ty.dflt Y76]).set 0 (a1.getD a2.2.toNat D76)).getD 0 D76).2.2.2.1, ((if (((([Ty.dflt Y76]).set 0 (a1.getD (wr (a2.2 + (1 : Int))).toNat D76)).getD 0 D76).2.2.2.2.1 : Int) < ((([Ty.dflt Y76]).set 0 (a1.getD a2.2.toNat D76)).getD 0 D76).2.2.2.2.1 then ((([Ty.dflt Y76]).set 0 (a1.getD (wr (a2.2 + (1 : Int))).toNat D76)).getD 0 D76).2.2.2.2.1 else ((([Ty.dflt Y76]).set 0 (a1.getD a2.2.toNat D76)).getD 0 D76).2.2.2.2.1), (((([Ty.dflt Y76]).set 0 (a1.getD a2.2.toNat D76)).getD 0 D76).2.2.2.2.2.1, ((([Ty.dflt Y76]).set 0 (a1.getD a2.2.toNat D76)).getD 0 D76).2.2.2.2.2.2))))))) .tp]⟩ (pu 1 (an g157 (pu 1 (an g158 (pu 2 (an g159 (tn 0))))))) ?_
   rw [show ((([Ty.dflt Y76]).set 0 (a1.getD a2.2.toNat D76)).set 0 (((([Ty.dflt Y76]).set 0 (a1.getD a2.2.toNat D76)).getD 0 D76).1, (((([Ty.dflt Y76]).set 0 (a1.getD a2.2.toNat D76)).getD 0 D76).2.1, (((([Ty.dflt Y76]).set 0 (a1.getD a2.2.toNat D76)).getD 0 D76).2.2.1, (((([Ty.dflt Y76]).set 0 (a1.getD a2.2.toNat D76)).getD 0 D76).2.2.2.1, ((if (((([Ty.dflt Y76]).set 0 (a1.getD (wr (a2.2 + (1 : Int))).toNat D76)).getD 0 D76).2.2.2.2.1 : Int) < ((([Ty.dflt Y76]).set 0 (a1.getD a2.2.toNat D76)).getD 0 D76).2.2.2.2.1 then ((([Ty.dflt Y76]).set 0 (a1.getD (wr (a2.2 + (1 : Int))).toNat D76)).getD 0 D76).2.2.2.2.1 else ((([Ty.dflt Y76]).set 0 (a1.getD a2.2.toNat D76)).getD 0 D76).2.2.2.2.1), (((([Ty.dflt Y76]).set 0 (a1.getD a2.2.toNat D76)).getD 0 D76).2.2.2.2.2.1, ((([Ty.dflt Y76]).set 0 (a1.getD a2.2.toNat D76)).getD 0 D76).2.2.2.2.2.2))))))) = (([Ty.dflt Y76]).set 0 ((a1.getD a2.2.toNat D76).1, ((a1.getD a2.2.toNat D76).2.1, ((a1.getD a2.2.toNat D76).2.2.1, ((a1.getD a2.2.toNat D76).2.2.2.1, ((if (((([Ty.dflt Y76]).set 0 (a1.getD (wr (a2.2 + (1 : Int))).toNat D76)).getD 0 D76).2.2.2.2.1 : Int) < ((([Ty.dflt Y76]).set 0 (a1.getD a2.2.toNat D76)).getD 0 D76).2.2.2.2.1 then ((([Ty.dflt Y76]).set 0 (a1.getD (wr (a2.2 + (1 : Int))).toNat D76)).getD 0 D76).2.2.2.2.1 else ((([Ty.dflt Y76]).set 0 (a1.getD a2.2.toNat D76)).getD 0 D76).2.2.2.2.1), ((a1.getD a2.2.toNat D76).2.2.2.2.2.1, (a1.getD a2.2.toNat D76).2.2.2.2.2.2))))))) from set_upd ([Ty.dflt Y76]) 0 (a1.getD a2.2.toNat D76) D76 (fun z => (z.1, (z.2.1, (z.2.2.1, (z.2.2.2.1, ((if (((([Ty.dflt Y76]).set 0 (a1.getD (wr (a2.2 + (1 : Int))).toNat D76)).getD 0 D76).2.2.2.2.1 : Int) < ((([Ty.dflt Y76]).set 0 (a1.getD a2.2.toNat D76)).getD 0 D76).2.2.2.2.1 then ((([Ty.dflt Y76]).set 0 (a1.getD (wr (a2.2 + (1 : Int))).toNat D76)).getD 0 D76).2.2.2.2.1 else ((([Ty.dflt Y76]).set 0 (a1.getD a2.2.toNat D76)).getD 0 D76).2.2.2.2.1), (z.2.2.2.2.2.1, z.2.2.2.2.2.2))))))) (by first | (simp; done) | simpa using g159)]
   refine sN K [10, 16] [0] ⟨[(10, .lf (.ptr 0 0 0 0)), (16, Vv (.sl Y76) ((a1.take y11.toNat).drop (wr (a2.2 + (2 : Int))).toNat))], [ar 0 Y76 (([Ty.dflt Y76]).set 0 ((a1.getD a2.2.toNat D76).1, ((a1.getD a2.2.toNat D76).2.1, ((a1.getD a2.2.toNat D76).2.2.1, ((a1.getD a2.2.toNat D76).2.2.2.1, ((if (((([Ty.dflt Y76]).set 0 (a1.getD (wr (a2.2 + (1 : Int))).toNat D76)).getD 0 D76).2.2.2.2.1 : Int) < ((([Ty.dflt Y76]).set 0 (a1.getD a2.2.toNat D76)).getD 0 D76).2.2.2.2.1 then ((([Ty.dflt Y76]).set 0 (a1.getD (wr (a2.2 + (1 : Int))).toNat D76)).getD 0 D76).2.2.2.2.1 else ((([Ty.dflt Y76]).set 0 (a1.getD a2.2.toNat D76)).getD 0 D76).2.2.2.2.1), ((a1.getD a2.2.toNat D76).2.2.2.2.2.1, (a1.getD a2.2.toNat D76).2.2.2.2.2.2))))))) .tp]⟩ (tn 0) ?_
   refine sq <| VW.region ?_
   have⟨g160,h⟩:=gS h
   refine nG K 3 (an g160 (tn 2)) <| VO.ghl [.frz 1] <| nG K 1 (tn 1) ?_
   have⟨y161,hy,h⟩:=aS h
   refine VO.ghl [.frz 2] <| cal false [.t (.sl (.sl Y76))] [] (some 100) K (ok112 N _ hy) <| nN K (tn 2) ?_
   cases h; exact VW.ret (rt [some 3])
  refine nR K (tn 2) ?_
  refine cnd h ?_ ?_<;>intro h
  ·refine sq ?_
   have⟨y162,hy162,h⟩:=aS h
   have⟨g163,h⟩:=gS h
   have⟨g164,h⟩:=gS h
   refine dr K [(2, .ev [5]), (3, .cl [6] (some 106) [.lf (.own Y76 y162 .tp)])] [(2, 0), (3, 1)] [2, 3] [6, 7] [7] (pu 5 (an g163 (pu 1 (an g164 (tn 3))))) ⟨qE [5] K trivial, qC false [.t (.sl (.sl Y76))] [] [6] (some 106) K (ok112 N _ hy162), trivial⟩ ?_
   cases h; exact VW.ret (rt [some 0])
  refine nR K (tn 2) ?_
  refine cnd h ?_ ?_<;>intro h
  ·refine sq <| VW.region <| sG K 2 [114, 115] [5] ⟨[(114, hh 0), (115, Vv (.sl Y76) ((a1.take y11.toNat).drop (wr (a2.2 + (2 : Int))).toNat))], [ar 0 Y76 ([((([Ty.dflt Y76]).set 0 (a1.getD (wr (a2.2 + (1 : Int))).toNat D76)).getD 0 D76)]) .tp]⟩ (tn 2) <| VO.ghl [.frz 0] <| nG K 1 (tn 1) ?_
   have⟨y165,hy,h⟩:=aS h
   refine VO.ghl [.frz 1] <| cal false [.t (.sl (.sl Y76))] [] (some 117) K (ok112 N _ hy) <| nN K (tn 2) ?_
   cases h; exact VW.ret (rt [some 2])
  refine sRh K [0, 1, 5, 10, 11, 12, 13, 14, 15, 16, 81, 118] [0, 1, 2, 3, 4, 5] [(0, Vv (.sl Y82) a0), (1, Vv (.sl Y76) a1), (5, .lf (.ptr 0 0 0 0)), (10, .lf (.ptr 1 0 0 0)), (11, .lf (.ptr 2 0 0 0)), (12, hh 3), (13, I y11), (14, hh 4), (15, hh 5), (16, Vv (.sl Y76) ((a1.take y11.toNat).drop (wr (a2.2 + (2 : Int))).toNat)), (81, I a2.1), (118, B (a2.1 == (4 : Int)))] (tn 2) ?_
  refine cnd h ?_ ?_<;>intro h
  ·refine sq ?_
   have⟨g166,h⟩:=gS h
   have⟨g167,h⟩:=gS h
   have⟨g168,h⟩:=gS h
   have⟨g169,h⟩:=gS h
   have⟨g170,h⟩:=gS h
   have⟨g171,h⟩:=gS h
   have⟨g172,h⟩:=gS h
   have⟨g173,h⟩:=gS h
   have⟨y174,hy174,h⟩:=aS h
   refine dr K [(17, .ev [5, 4]), (18, .cl [6] (some 138) [.lf (.own Y76 y174 .tp)])] [(17, 0), (18, 1)] [17, 18] [6, 7] [7] (pu 4 (an g166 (an g167 (pu 1 (an g168 (an g169 (an g170 (pu 3 (an g171 (an g172 (pu 1 (an g173 (tn 4))))))))))))) ⟨qE [5, 4] K trivial, qC false [.t (.sl (.sl Y76))] [] [6] (some 138) K (ok112 N _ hy174), trivial⟩ ?_
   cases h; exact VW.ret (rt [some 0])
  refine VW.join (fun s => ∃ x175 x176 x177 x178 x179 x180 x181 x182 x183, s = ⟨[(0, Vv (.sl Y82) a0), (1, Vv (.sl Y76) a1), (5, .lf (.ptr 0 0 0 0)), (10, .lf (.ptr 1 0 0 0)), (11, .lf (.ptr 2 0 0 0)), (12, hh 3), (13, I y11), (14, hh 4), (15, hh 5), (16, Vv (.sl Y76) x181), (81, I x182), (139, B x183)], [bx [zi x175, zi x176] 42, ar 0 Y76 x177 .tp, ar 0 Y76 x178 .tp, ar 0 (.int .i64) y10 .dp, ar 0 Y76 x179 .tp, ar 0 Y76 x180 .tp]⟩ ∧ F111_j2 N a0 a1 y10 y11 x175 x176 x177 x178 x179 x180 x181 x182 x183 = some r) ?_ ?_
  ·refine nR K (tn 2) ?_
   refine cnd h ?_ ?_<;>intro h
   ·refine VW.skip ?_
    exact arv [.ren [0, 1, 5, 10, 11, 12, 13, 14, 15, 16, 81, 139] [0, 1, 2, 3, 4, 5]] ⟨a2.1, a2.2, (([Ty.dflt Y76]).set 0 (a1.getD a2.2.toNat D76)), (([Ty.dflt Y76]).set 0 (a1.getD (wr (a2.2 + (1 : Int))).toNat D76)), [((([Ty.dflt Y76]).set 0 (a1.getD a2.2.toNat D76)).getD 0 D76)], [((([Ty.dflt Y76]).set 0 (a1.getD (wr (a2.2 + (1 : Int))).toNat D76)).getD 0 D76)], ((a1.take y11.toNat).drop (wr (a2.2 + (2 : Int))).toNat), a2.1, (a2.1 == (5 : Int)), rfl, h⟩
   refine nE K (tn 2) ?_
   exact arv [.ren [0, 1, 5, 10, 11, 12, 13, 14, 15, 16, 81, 139] [0, 1, 2, 3, 4, 5]] ⟨a2.1, a2.2, (([Ty.dflt Y76]).set 0 (a1.getD a2.2.toNat D76)), (([Ty.dflt Y76]).set 0 (a1.getD (wr (a2.2 + (1 : Int))).toNat D76)), [((([Ty.dflt Y76]).set 0 (a1.getD a2.2.toNat D76)).getD 0 D76)], [((([Ty.dflt Y76]).set 0 (a1.getD (wr (a2.2 + (1 : Int))).toNat D76)).getD 0 D76)], ((a1.take y11.toNat).drop (wr (a2.2 + (2 : Int))).toNat), a2.1, (a2.1 == (6 : Int)), rfl, h⟩
  rintro s ⟨x175, x176, x177, x178, x179, x180, x181, x182, x183, rfl, h⟩
  unfold F111_j2 at h
  refine cnd h ?_ ?_<;>intro h
  ·refine sq <| VW.region ?_
   have⟨g184,h⟩:=gS h
   have⟨g185,h⟩:=gS h
   refine nG K 5 (pu 3 (an g184 (an g185 (tn 0)))) ?_
   have⟨y186,hy,h⟩:=aS h
   refine cal false [.t (.sl Y82), .t (.sl Y76), .t (.int .i64)] [] (some 147) K (ok149 N _ _ _ hy) <| nN K (tn 1) <| sq <| nR K (tn 3) ?_
   refine cnd h ?_ ?_<;>intro h
   ·refine sq ?_
    have⟨g192,h⟩:=gS h
    have⟨g193,h⟩:=gS h
    have⟨g194,h⟩:=gS h
    have⟨y195,hy195,h⟩:=aS h
    have⟨g196,h⟩:=gS h
    refine dr K [(8, .ev [5, 4]), (9, .cl [6] (some 160) [.lf (.own Y76 y195 .tp)])] [(8, 0), (9, 1)] [8, 9] [6, 7] [7] (pu 4 (an g192 (an g193 (pu 1 (an g194 (pu 3 (an g196 (tn 4)))))))) ⟨qE [5, 4] K trivial, qC false [.t (.sl (.sl Y76))] [] [6] (some 160) K (ok112 N _ hy195), trivial⟩ ?_
    cases h; exact VW.ret (rt [some 0])
   refine VW.skip ?_
   have⟨g197,h⟩:=gS h
   have⟨g198,h⟩:=gS h
   refine nR K (pu 1 (an g197 (pu 3 (an g198 (tn 0))))) <| sq ?_
   have⟨g199,h⟩:=gS h
   have⟨g200,h⟩:=gS h
   have⟨g201,h⟩:=gS h
   have⟨g202,h⟩:=gS h
   have⟨g203,h⟩:=gS h
   have⟨g204,h⟩:=gS h
   have⟨g205,h⟩:=gS h
   have⟨g206,h⟩:=gS h
   have⟨g207,h⟩:=gS h
   have⟨y208,hy208,h⟩:=aS h
   have⟨g209,h⟩:=gS h
   refine dr K [(17, .ev [5, 6]), (18, .cl [7] (some 188) [.lf (.own Y76 y208 .tp)])] [(17, 1), (18, 2)] [10, 17, 18] [6, 7] [8] (pu 3 (an g199 (an g200 (pu 1 (an g201 (an g202 (an g203 (an g204 (pu 3 (an g205 (an g206 (pu 1 (an g207 (pu 3 (an g209 (tn 3)))))))))))))))) ⟨qE [5, 6] K trivial, qC false [.t (.sl (.sl Y76))] [] [7] (some 188) K (ok112 N _ hy208), trivial⟩ ?_
   cases h; exact VW.ret (rt [some 0])
  refine nR K (tn 2) ?_
  refine cnd h ?_ ?_<;>intro h
  ·refine nR K (tn 1) ?_
   refine VW.join (fun s => ∃ x242, s = ⟨[(11, .lf (.ptr 0 0 0 0)), (16, Vv (.sl Y76) x181), (18, hh 1)], [ar 0 Y76 x178 .tp, ar 0 (.int .i64) x242 .dp]⟩ ∧ F111_j1 N x178 x181 x242 = some r) ?_ ?_
   ·have⟨g247,h⟩:=gS h
    refine nR K (pu 1 (an g247 (tn 2))) <| VW.block <| lop (fun k s => ∃ x258 x259 x260 x261, s = ⟨[(11, .lf (.ptr 0 0 0 0)), (16, Vv (.sl Y76) x181), (18, hh 1), (195, Vv (.sl (.int .i64)) x259), (196, I x260), (197, I x261)], [ar 0 Y76 x178 .tp, ar 0 (.int .i64) x258 .dp]⟩ ∧ F111_l0 N x178 x181 k x258 x259 x260 x261 = some r) N [.nilS 18 (.int .i64) .dp, .ren [11, 16, 18, 195, 196, 197] [2, 6]] ⟨[], (x177.getD 0 D76).2.2.2.2.2.2, (((x177.getD 0 D76).2.2.2.2.2.2).length : Int), (0 : Int), rfl, h⟩ ?_
    rintro k270 s ⟨x258, x259, x260, x261, rfl, h⟩
    cases k270 with
    | zero => cases show none = some r from h
    | succ k270 =>
     replace h : F111_l0_b N x178 x181 (F111_l0 N x178 x181 k270) x258 x259 x260 x261 = some r := h
     unfold F111_l0_b at h
     refine nR K (tn 1) <| sq ?_
     refine cnd h ?_ ?_<;>intro h
     ·refine VW.skip <| sq <| VW.block ?_
      have⟨g275,h⟩:=gS h
      refine nR K (an g275 (tn 2)) ?_
      have⟨g276,h⟩:=gS h
      have⟨g277,h⟩:=gS h
      have⟨g278,h⟩:=gS h
      refine nE K (pu 2 (an g276 (pu 1 (an g277 (pu 2 (an g278 (tn 1))))))) <| nE K (tn 2) ?_
      exact aro [.ren [11, 16, 18, 195, 196, 197] [0, 1]] ⟨(x258 ++ ([(((x178.getD 0 D76).2.2.2.2.2.2).getD (x259.getD x261.toNat (Ty.dflt (.int .i64))).toNat (Ty.dflt (.int .i64)))])), x259, x260, (wr (x261 + (1 : Int))), rfl, h⟩
     refine VW.exit ?_
     exact arv [.ren [11, 16, 18] [0, 1]] ⟨x258, rfl, h⟩
   rintro s ⟨x242, rfl, h⟩
   unfold F111_j1 at h
   refine sq <| VW.region <| nG K 2 (tn 2) <| VO.ghl [.frz 1] ?_
   have⟨g243,h⟩:=gS h
   refine nN K (an g243 (tn 0)) <| sq <| VW.region ?_
   have⟨g244,h⟩:=gS h
   refine nG K 3 (an g244 (tn 2)) <| VO.ghl [.frz 2] <| nG K 1 (tn 1) ?_
   have⟨y245,hy,h⟩:=aS h
   refine VO.ghl [.frz 3] <| cal false [.t (.sl (.sl Y76))] [] (some 216) K (ok112 N _ hy) <| nN K (tn 2) ?_
   cases h; exact VW.ret (rt [some 4])
  refine nR K (tn 2) ?_
  refine cnd h ?_ ?_<;>intro h
  ·have⟨g279,h⟩:=gS h
   have⟨g280,h⟩:=gS h
   have⟨g281,h⟩:=gS h
   have⟨g282,h⟩:=gS h
   refine nR K (pu 1 (an g279 (pu 1 (an g280 (an g281 (pu 2 (an g282 (tn 0)))))))) <| sq <| VW.region ?_
   have⟨g283,h⟩:=gS h
   refine nG K 4 (pu 1 (an g283 (tn 2))) <| VO.ghl [.frz 5, .frz 6] <| nG K 1 (tn 1) ?_
   have⟨y284,hy,h⟩:=aS h
   refine VO.ghl [.frz 7] <| cal false [.t (.sl (.sl Y76))] [] (some 231) K (ok112 N _ hy) <| sN K [6, 7] [8] ⟨[(6, hh 0), (7, B true)], [ar 0 Y76 y284 .tp]⟩ (tn 2) ?_
   cases h; exact VW.ret (rt [some 0])
  refine VW.skip ?_
  exact arv [.ren [14, 15, 16] [4, 5]] ⟨x179, x180, x181, rfl, h⟩
 rintro s ⟨x148, x149, x150, rfl, h⟩
 unfold F111_j0 at h
 refine sq <| VW.region <| nG K 3 (tn 3) <| VO.ghl [.frz 1, .frz 0] <| nG K 1 (tn 1) ?_
 have⟨y151,hy,h⟩:=aS h
 refine VO.ghl [.frz 2] <| cal false [.t (.sl (.sl Y76))] [] (some 236) K (ok112 N _ hy) <| nN K (tn 2) ?_
 cases h; exact VW.ret (rt [some 3])
def F71 (N : Nat) (a0 : (List Z82)) (a1 : (List Z76)) (a2 : Z35) : Option ((List Z76) × Bool) :=
  andO (F91 N a2.2 (0 : Int) (IntKind.i64.wrap ((a1.length : Int) - (1 : Int)))) fun y3 => cond (!y3) (andO (F70 N a1) fun y4 => some (y4, false)) (andO (F111 N a0 a1 a2) fun y5 => cond (!y5.2) (andO (F70 N a1) fun y7 => some (y7, false)) (gd (0 ≤ a2.2 ∧ a2.2 ≤ (a1.length : Int)) (andO (F113 N a1 a2.2 (1 : Int)) fun y9 => gd (0 ≤ y9 ∧ y9 ≤ (a1.length : Int)) (andO (F112 N ([(a1.take a2.2.toNat), y5.1, (a1.drop y9.toNat)])) fun y11 => andO (F70 N y11) fun y12 => andO (F83 N y12) fun y15 => cond (!y15) (andO (F70 N a1) fun y16 => some (y16, false)) (some (y12, true))))))
theorem ok71 N a0 a1 a2 {r} (h : F71 N a0 a1 a2 = some r) : Con prog 71 [Vv (.sl Y82) a0, Vv (.sl Y76) a1, .agg (lv Y35 a2)] [.lf (.own Y76 r.1 .dp), .lf (.v .bool r.2)] := by
 refine ctr [.lf (.own Y76 .dp), .lf (.v .bool)] K func71 rfl fun w0 E0 ht => ?_
 unfold F71 at h
 show VW _ _ _ _ _ (retQ _ _ _ _) _
 refine nR K (tn 3) <| sq <| sq <| VW.region <| nG K 5 (tn 5) ?_
 have⟨y3,hy,h⟩:=aS h
 refine cal false [.t (.int .i64), .t (.int .i64), .t (.int .i64)] [] (some 16) K (ok91 N _ _ _ hy) <| nN K (tn 1) ?_
 refine cnd h ?_ ?_<;>intro h
 ·refine sq <| VW.region <| nG K 1 (tn 1) ?_
  have⟨y4,hy,h⟩:=aS h
  refine cal false [.t (.sl Y76)] [] (some 19) K (ok70 N _ hy) <| nN K (tn 2) ?_
  cases h; exact VW.ret (rt [some 1])
 refine VW.skip <| sq <| VW.region <| nG K 3 (tn 3) ?_
 have⟨y5,hy,h⟩:=aS h
 refine cal false [.t (.sl Y82), .t (.sl Y76), .t Y35] [] (some 24) K (ok111 N _ _ _ hy) <| nN K (tn 5) <| sq <| sRh K [1, 5, 8, 28] [0, 1] [(1, Vv (.sl Y76) a1), (5, .lf (.ptr 0 0 0 0)), (8, hh 1), (28, B (!y5.2))] (tn 2) ?_
 refine cnd h ?_ ?_<;>intro h
 ·refine sq <| VW.region <| nG K 1 (tn 1) ?_
  have⟨y7,hy,h⟩:=aS h
  refine cal false [.t (.sl Y76)] [] (some 30) K (ok70 N _ hy) <| nN K (tn 2) ?_
  cases h; exact VW.ret (rt [some 2])
 refine VW.skip <| sq ?_
 have⟨g8,h⟩:=gS h
 have⟨y9,hy9,h⟩:=aS h
 have⟨g10,h⟩:=gS h
 have⟨y11,hy11,h⟩:=aS h
 have⟨y12,hy12,h⟩:=aS h
 refine dr K [(9, .cl [] (some 40) [.lf (.v (.int .i64) y9)]), (11, .ev [1]), (12, .cl [2] (some 43) [.lf (.own Y76 y11 .tp)]), (13, .cl [] (some 44) [.lf (.own Y76 y12 .dp)])] [(9, 0), (9, 1), (11, 0), (12, 1), (13, 2)] [11, 12, 13] [1, 10] [4] (pu 3 (an g8 (pu 6 (an g10 (tn 4))))) ⟨qC false [.t (.sl Y76), .t (.int .i64), .t (.int .i64)] [] [] (some 40) K (ok113 N _ _ _ hy9), qC false [.t (.sl Y76), .t (.int .i64), .t (.int .i64)] [] [] (some 40) K (ok113 N _ _ _ hy9), qE [1] K trivial, qC false [.t (.sl (.sl Y76))] [] [2] (some 43) K (ok112 N _ hy11), qC true [.t (.sl Y76)] [] [] (some 44) K (ok70 N _ hy12), trivial⟩ ?_
 refine sq <| sq <| VW.region <| nG K 1 (tn 1) ?_
 have⟨y15,hy,h⟩:=aS h
 refine cal true [.t (.sl Y76)] [] (some 46) K (ok83 N _ hy) <| nN K (tn 1) ?_
 refine cnd h ?_ ?_<;>intro h
 ·refine sq <| VW.region <| nG K 1 (tn 1) ?_
  have⟨y16,hy,h⟩:=aS h
  refine cal false [.t (.sl Y76)] [] (some 49) K (ok70 N _ hy) <| nN K (tn 2) ?_
  cases h; exact VW.ret (rt [some 1])
 refine VW.skip <| nR K (tn 3) ?_
 cases h; exact VW.ret (rt [some 0])
def F24 (N : Nat) (a0 : (List Z82)) (a1 : (List Z76)) (a2 : Z35) : Option ((List Z76) × Bool) :=
  andO (F69 N a0 a1) fun y3 => cond (!y3) (andO (F70 N a1) fun y4 => some (y4, false)) (andO (F71 N a0 a1 a2) fun y5 => some (y5.1, y5.2))
theorem ok24 N a0 a1 a2 {r} (h : F24 N a0 a1 a2 = some r) : Con prog 24 [Vv (.sl Y82) a0, Vv (.sl Y76) a1, .agg (lv Y35 a2)] [.lf (.own Y76 r.1 .dp), .lf (.v .bool r.2)] := by
 refine ctr [.lf (.own Y76 .dp), .lf (.v .bool)] K func24 rfl fun w0 E0 ht => ?_
 unfold F24 at h
 show VW _ _ _ _ _ (retQ _ _ _ _) _
 refine nR K (tn 3) <| sq <| sq <| VW.region <| nG K 2 (tn 2) ?_
 have⟨y3,hy,h⟩:=aS h
 refine cal false [.t (.sl Y82), .t (.sl Y76)] [] (some 10) K (ok69 N _ _ hy) <| nN K (tn 1) ?_
 refine cnd h ?_ ?_<;>intro h
 ·refine sq <| VW.region <| nG K 1 (tn 1) ?_
  have⟨y4,hy,h⟩:=aS h
  refine cal false [.t (.sl Y76)] [] (some 13) K (ok70 N _ hy) <| nN K (tn 2) ?_
  cases h; exact VW.ret (rt [some 1])
 refine VW.skip <| sq <| VW.region <| nG K 3 (tn 3) ?_
 have⟨y5,hy,h⟩:=aS h
 refine cal false [.t (.sl Y82), .t (.sl Y76), .t Y35] [] (some 17) K (ok71 N _ _ _ hy) <| nN K (tn 4) ?_
 cases h; exact VW.ret (rt [some 1])
def F72 (N : Nat) (a0 : Z82) (a1 : Z82) : Option (Bool) :=
  cond (!(a0.1.toList == a1.1.toList)) (some false) (cond (a0.2 != a1.2) (some false) (some true))
theorem ok72 N a0 a1 {r} (h : F72 N a0 a1 = some r) : Con prog 72 [.agg (lv Y82 a0), .agg (lv Y82 a1)] [.lf (.v .bool r)] := by
 refine ctr [.lf (.v .bool)] K func72 rfl fun w0 E0 ht => ?_
 unfold F72 at h
 show VW _ _ _ _ _ (retQ _ _ _ _) _
 refine nR K (tn 3) <| sq <| nR K (tn 5) ?_
 refine cnd h ?_ ?_<;>intro h
 ·refine nR K (tn 1) ?_
  cases h; exact VW.ret (rt [])
 refine VW.skip <| sq <| nR K (tn 5) ?_
 refine cnd h ?_ ?_<;>intro h
 ·refine nR K (tn 1) ?_
  cases h; exact VW.ret (rt [])
 refine VW.skip <| nR K (tn 1) ?_
 cases h; exact VW.ret (rt [])
def F25_j0 (N : Nat) : Option (Bool) :=
  some true
def F25_l0_b (N : Nat) (a0 : (List Z82)) (a1 : (List Z82)) (nx35 : Int → Option (Bool)) (x28 : Int) : Option (Bool) :=
  cond (decide (x28 < (a0.length : Int))) (gd (InR x28 a0.length) (gd (InR x28 a1.length) (andO (F72 N (a0.getD x28.toNat (Ty.dflt Y82)) (a1.getD x28.toNat (Ty.dflt Y82))) fun y41 => cond (!y41) (some false) (nx35 (IntKind.i64.wrap (x28 + (1 : Int))))))) (F25_j0 N)
def F25_l0 (N : Nat) (a0 : (List Z82)) (a1 : (List Z82)) := loopF (F25_l0_b N a0 a1) (fun _ => none)
theorem F25_l0_s N a0 a1 {k} (hk : 0 < k) x28 : F25_l0 N a0 a1 k x28 = F25_l0_b N a0 a1 (F25_l0 N a0 a1 (k - 1)) x28 := by cases k;cases hk;rfl
def F25 (N : Nat) (a0 : (List Z82)) (a1 : (List Z82)) : Option (Bool) :=
  cond ((a0.length : Int) != (a1.length : Int)) (some false) (F25_l0 N a0 a1 N (0 : Int))
theorem ok25 N a0 a1 {r} (h : F25 N a0 a1 = some r) : Con prog 25 [Vv (.sl Y82) a0, Vv (.sl Y82) a1] [.lf (.v .bool r)] := by
 refine ctr [.lf (.v .bool)] K func25 rfl fun w0 E0 ht => ?_
 unfold F25 at h
 show VW _ _ _ _ _ (retQ _ _ _ _) _
 refine nR K (tn 1) <| sq <| nR K (tn 5) ?_
 refine cnd h ?_ ?_<;>intro h
 ·refine nR K (tn 1) ?_
  cases h; exact VW.ret (rt [])
 refine VW.skip ?_
 refine VW.join (fun s => s = ⟨[], []⟩ ∧ F25_j0 N = some r) ?_ ?_
 ·refine nR K (tn 1) <| VW.block <| lop (fun k s => ∃ x28, s = ⟨[(0, Vv (.sl Y82) a0), (1, Vv (.sl Y82) a1), (5, I x28)], []⟩ ∧ F25_l0 N a0 a1 k x28 = some r) N [.ren [0, 1, 5] []] ⟨(0 : Int), rfl, h⟩ ?_
  rintro k35 s ⟨x28, rfl, h⟩
  cases k35 with
  | zero => cases show none = some r from h
  | succ k35 =>
   replace h : F25_l0_b N a0 a1 (F25_l0 N a0 a1 k35) x28 = some r := h
   unfold F25_l0_b at h
   refine sq <| nR K (tn 4) ?_
   refine cnd h ?_ ?_<;>intro h
   ·refine VW.skip <| sq <| VW.block <| sq ?_
    have⟨g39,h⟩:=gS h
    have⟨g40,h⟩:=gS h
    have⟨y41,hy41,h⟩:=aS h
    refine dr K [(8, .cl [] (some 25) [.lf (.v .bool y41)])] [(8, 0)] [] [0, 1, 5, 26] [] (pu 2 (an g39 (pu 3 (an g40 (tn 3))))) ⟨qC false [.t Y82, .t Y82] [] [] (some 25) K (ok72 N _ _ hy41), trivial⟩ ?_
    refine cnd h ?_ ?_<;>intro h
    ·refine nR K (tn 1) ?_
     cases h; exact VW.ret (rt [])
    refine VW.skip <| nE K (tn 3) ?_
    exact aro [.ren [0, 1, 5] []] ⟨(wr (x28 + (1 : Int))), rfl, h⟩
   refine VW.exit ?_
   exact arv [.ren [] []] ⟨rfl, h⟩
 rintro s ⟨rfl, h⟩
 unfold F25_j0 at h
 refine nR K (tn 1) ?_
 cases h; exact VW.ret (rt [])
def F75 (N : Nat) (a0 : Z35) (a1 : Z35) : Option (Bool) :=
  cond (a0.1 != a1.1) (some false) (cond (a0.2 != a1.2) (some false) (some true))
theorem ok75 N a0 a1 {r} (h : F75 N a0 a1 = some r) : Con prog 75 [.agg (lv Y35 a0), .agg (lv Y35 a1)] [.lf (.v .bool r)] := by
 refine ctr [.lf (.v .bool)] K func75 rfl fun w0 E0 ht => ?_
 unfold F75 at h
 show VW _ _ _ _ _ (retQ _ _ _ _) _
 refine nR K (tn 3) <| sq <| nR K (tn 5) ?_
 refine cnd h ?_ ?_<;>intro h
 ·refine nR K (tn 1) ?_
  cases h; exact VW.ret (rt [])
 refine VW.skip <| sq <| nR K (tn 5) ?_
 refine cnd h ?_ ?_<;>intro h
 ·refine nR K (tn 1) ?_
  cases h; exact VW.ret (rt [])
 refine VW.skip <| nR K (tn 1) ?_
 cases h; exact VW.ret (rt [])
def F31_j0 (N : Nat) : Option (Bool) :=
  some true
def F31_l0_b (N : Nat) (a0 : (List Z35)) (a1 : (List Z35)) (nx35 : Int → Option (Bool)) (x28 : Int) : Option (Bool) :=
  cond (decide (x28 < (a0.length : Int))) (gd (InR x28 a0.length) (gd (InR x28 a1.length) (andO (F75 N (a0.getD x28.toNat (Ty.dflt Y35)) (a1.getD x28.toNat (Ty.dflt Y35))) fun y41 => cond (!y41) (some false) (nx35 (IntKind.i64.wrap (x28 + (1 : Int))))))) (F31_j0 N)
def F31_l0 (N : Nat) (a0 : (List Z35)) (a1 : (List Z35)) := loopF (F31_l0_b N a0 a1) (fun _ => none)
theorem F31_l0_s N a0 a1 {k} (hk : 0 < k) x28 : F31_l0 N a0 a1 k x28 = F31_l0_b N a0 a1 (F31_l0 N a0 a1 (k - 1)) x28 := by cases k;cases hk;rfl
def F31 (N : Nat) (a0 : (List Z35)) (a1 : (List Z35)) : Option (Bool) :=
  cond ((a0.length : Int) != (a1.length : Int)) (some false) (F31_l0 N a0 a1 N (0 : Int))
theorem ok31 N a0 a1 {r} (h : F31 N a0 a1 = some r) : Con prog 31 [Vv (.sl Y35) a0, Vv (.sl Y35) a1] [.lf (.v .bool r)] := by
 refine ctr [.lf (.v .bool)] K func31 rfl fun w0 E0 ht => ?_
 unfold F31 at h
 show VW _ _ _ _ _ (retQ _ _ _ _) _
 refine nR K (tn 1) <| sq <| nR K (tn 5) ?_
 refine cnd h ?_ ?_<;>intro h
 ·refine nR K (tn 1) ?_
  cases h; exact VW.ret (rt [])
 refine VW.skip ?_
 refine VW.join (fun s => s = ⟨[], []⟩ ∧ F31_j0 N = some r) ?_ ?_
 ·refine nR K (tn 1) <| VW.block <| lop (fun k s => ∃ x28, s = ⟨[(0, Vv (.sl Y35) a0), (1, Vv (.sl Y35) a1), (5, I x28)], []⟩ ∧ F31_l0 N a0 a1 k x28 = some r) N [.ren [0, 1, 5] []] ⟨(0 : Int), rfl, h⟩ ?_
  rintro k35 s ⟨x28, rfl, h⟩
  cases k35 with
  | zero => cases show none = some r from h
  | succ k35 =>
   replace h : F31_l0_b N a0 a1 (F31_l0 N a0 a1 k35) x28 = some r := h
   unfold F31_l0_b at h
   refine sq <| nR K (tn 4) ?_
   refine cnd h ?_ ?_<;>intro h
   ·refine VW.skip <| sq <| VW.block <| sq ?_
    have⟨g39,h⟩:=gS h
    have⟨g40,h⟩:=gS h
    have⟨y41,hy41,h⟩:=aS h
    refine dr K [(8, .cl [] (some 25) [.lf (.v .bool y41)])] [(8, 0)] [] [0, 1, 5, 26] [] (pu 2 (an g39 (pu 3 (an g40 (tn 3))))) ⟨qC false [.t Y35, .t Y35] [] [] (some 25) K (ok75 N _ _ hy41), trivial⟩ ?_
    refine cnd h ?_ ?_<;>intro h
    ·refine nR K (tn 1) ?_
     cases h; exact VW.ret (rt [])
    refine VW.skip <| nE K (tn 3) ?_
    exact aro [.ren [0, 1, 5] []] ⟨(wr (x28 + (1 : Int))), rfl, h⟩
   refine VW.exit ?_
   exact arv [.ren [] []] ⟨rfl, h⟩
 rintro s ⟨rfl, h⟩
 unfold F31_j0 at h
 refine nR K (tn 1) ?_
 cases h; exact VW.ret (rt [])
def F34 (N : Nat) (a0 : (List Z35)) (a1 : Int) : Option (Int) :=
  cond (decide ((IntKind.i64.wrap (a1 - (a0.length : Int))) < (0 : Int))) (some (-1 : Int)) (some (IntKind.i64.wrap (a1 - (a0.length : Int))))
theorem ok34 N a0 a1 {r} (h : F34 N a0 a1 = some r) : Con prog 34 [Vv (.sl Y35) a0, I a1] [.lf (.v (.int .i64) r)] := by
 refine ctr [.lf (.v (.int .i64))] K func34 rfl fun w0 E0 ht => ?_
 unfold F34 at h
 show VW _ _ _ _ _ (retQ _ _ _ _) _
 refine nR K (tn 1) <| nR K (tn 5) <| sq <| nR K (tn 2) ?_
 refine cnd h ?_ ?_<;>intro h
 ·refine nR K (tn 1) ?_
  cases h; exact VW.ret (rt [])
 refine VW.skip <| nR K (tn 2) ?_
 cases h; exact VW.ret (rt [])
def F38_j0 (N : Nat) (a2 : (List Z35)) (x17 : (List Z76)) : Option ((List Z76) × Int) :=
  some (x17, (a2.length : Int))
def F38_l0_b (N : Nat) (a0 : (List Z82)) (a2 : (List Z35)) (nx29 : (List Z76) → Int → Option ((List Z76) × Int)) (x23 : (List Z76)) (x24 : Int) : Option ((List Z76) × Int) :=
  cond (decide (x24 < (a2.length : Int))) (gd (InR x24 a2.length) (andO (F21 N a0 x23 (a2.getD x24.toNat (Ty.dflt Y35))) fun y33 => cond (!y33.2) (some (x23, x24)) (nx29 y33.1 (IntKind.i64.wrap (x24 + (1 : Int)))))) (F38_j0 N a2 x23)
def F38_l0 (N : Nat) (a0 : (List Z82)) (a2 : (List Z35)) := loopF (F38_l0_b N a0 a2) (fun _ _ => none)
theorem F38_l0_s N a0 a2 {k} (hk : 0 < k) x23 x24 : F38_l0 N a0 a2 k x23 x24 = F38_l0_b N a0 a2 (F38_l0 N a0 a2 (k - 1)) x23 x24 := by cases k;cases hk;rfl
def F38 (N : Nat) (a0 : (List Z82)) (a1 : (List Z76)) (a2 : (List Z35)) : Option ((List Z76) × Int) :=
  andO (F60 N a1) fun y1 => cond (decide ((a2.length : Int) > (20 : Int))) (some (y1, (0 : Int))) (F38_l0 N a0 a2 N y1 (0 : Int))
theorem ok38 N a0 a1 a2 {r} (h : F38 N a0 a1 a2 = some r) : Con prog 38 [Vv (.sl Y82) a0, Vv (.sl Y76) a1, Vv (.sl Y35) a2] [.lf (.v (.sl Y76) r.1), .lf (.v (.int .i64) r.2)] := by
 refine ctr [.lf (.v (.sl Y76)), .lf (.v (.int .i64))] K func38 rfl fun w0 E0 ht => ?_
 unfold F38 at h
 show VW _ _ _ _ _ (retQ _ _ _ _) _
 refine nR K (tn 2) <| sq <| VW.region <| nG K 1 (tn 1) ?_
 have⟨y1,hy,h⟩:=aS h
 refine cal false [.t (.sl Y76)] [] (some 13) K (ok60 N _ hy) <| nN K (tn 1) <| sq <| nR K (tn 3) ?_
 refine cnd h ?_ ?_<;>intro h
 ·refine nR K (tn 3) ?_
  cases h; exact VW.ret (rt [])
 refine VW.skip ?_
 refine VW.join (fun s => ∃ x17, s = ⟨[(2, Vv (.sl Y35) a2), (8, Vv (.sl Y76) x17)], []⟩ ∧ F38_j0 N a2 x17 = some r) ?_ ?_
 ·refine nR K (tn 1) <| VW.block <| lop (fun k s => ∃ x23 x24, s = ⟨[(0, Vv (.sl Y82) a0), (2, Vv (.sl Y35) a2), (8, Vv (.sl Y76) x23), (9, I x24)], []⟩ ∧ F38_l0 N a0 a2 k x23 x24 = some r) N [.frz 0, .ren [0, 2, 8, 9] []] ⟨y1, (0 : Int), rfl, h⟩ ?_
  rintro k29 s ⟨x23, x24, rfl, h⟩
  cases k29 with
  | zero => cases show none = some r from h
  | succ k29 =>
   replace h : F38_l0_b N a0 a2 (F38_l0 N a0 a2 k29) x23 x24 = some r := h
   unfold F38_l0_b at h
   refine sq <| nR K (tn 4) ?_
   refine cnd h ?_ ?_<;>intro h
   ·refine VW.skip <| sq <| VW.block <| sq <| VW.region ?_
    have⟨g32,h⟩:=gS h
    refine nG K 6 (pu 4 (an g32 (tn 1))) ?_
    have⟨y33,hy,h⟩:=aS h
    refine cal false [.t (.sl Y82), .t (.sl Y76), .t Y35] [] (some 31) K (ok21 N _ _ _ hy) <| nN K (tn 5) <| sq <| nR K (tn 2) ?_
    refine cnd h ?_ ?_<;>intro h
    ·refine nR K (tn 4) ?_
     cases h; exact VW.ret (rt [])
    refine VW.skip <| nE K (tn 2) <| rR K [0, 2, 8, 9] [] ⟨[(0, Vv (.sl Y82) a0), (2, Vv (.sl Y35) a2), (8, Vv (.sl Y76) y33.1), (9, I (wr (x24 + (1 : Int))))], []⟩ (tn 3) ?_
    exact aro [.ren [0, 2, 8, 9] []] ⟨y33.1, (wr (x24 + (1 : Int))), rfl, h⟩
   refine VW.exit ?_
   exact arv [.ren [2, 8] []] ⟨x23, rfl, h⟩
 rintro s ⟨x17, rfl, h⟩
 unfold F38_j0 at h
 refine nR K (tn 5) ?_
 cases h; exact VW.ret (rt [])
def F154_j0 (N : Nat) : Option (Bool) :=
  some true
def F154_l0_b (N : Nat) (a0 : (List Int)) (a1 : (List Int)) (nx25 : Int → Option (Bool)) (x20 : Int) : Option (Bool) :=
  cond (decide (x20 < (a0.length : Int))) (gd (InR x20 a0.length) (gd (InR x20 a1.length) (cond ((a0.getD x20.toNat (Ty.dflt (.int .i64))) != (a1.getD x20.toNat (Ty.dflt (.int .i64)))) (some false) (nx25 (IntKind.i64.wrap (x20 + (1 : Int))))))) (F154_j0 N)
def F154_l0 (N : Nat) (a0 : (List Int)) (a1 : (List Int)) := loopF (F154_l0_b N a0 a1) (fun _ => none)
theorem F154_l0_s N a0 a1 {k} (hk : 0 < k) x20 : F154_l0 N a0 a1 k x20 = F154_l0_b N a0 a1 (F154_l0 N a0 a1 (k - 1)) x20 := by cases k;cases hk;rfl
def F154 (N : Nat) (a0 : (List Int)) (a1 : (List Int)) : Option (Bool) :=
  cond ((a0.length : Int) != (a1.length : Int)) (some false) (F154_l0 N a0 a1 N (0 : Int))
theorem ok154 N a0 a1 {r} (h : F154 N a0 a1 = some r) : Con prog 154 [Vv (.sl (.int .i64)) a0, Vv (.sl (.int .i64)) a1] [.lf (.v .bool r)] := by
 refine ctr [.lf (.v .bool)] K func154 rfl fun w0 E0 ht => ?_
 unfold F154 at h
 show VW _ _ _ _ _ (retQ _ _ _ _) _
 refine nR K (tn 1) <| sq <| nR K (tn 5) ?_
 refine cnd h ?_ ?_<;>intro h
 ·refine nR K (tn 1) ?_
  cases h; exact VW.ret (rt [])
 refine VW.skip ?_
 refine VW.join (fun s => s = ⟨[], []⟩ ∧ F154_j0 N = some r) ?_ ?_
 ·refine nR K (tn 1) <| VW.block <| lop (fun k s => ∃ x20, s = ⟨[(0, Vv (.sl (.int .i64)) a0), (1, Vv (.sl (.int .i64)) a1), (5, I x20)], []⟩ ∧ F154_l0 N a0 a1 k x20 = some r) N [.ren [0, 1, 5] []] ⟨(0 : Int), rfl, h⟩ ?_
  rintro k25 s ⟨x20, rfl, h⟩
  cases k25 with
  | zero => cases show none = some r from h
  | succ k25 =>
   replace h : F154_l0_b N a0 a1 (F154_l0 N a0 a1 k25) x20 = some r := h
   unfold F154_l0_b at h
   refine sq <| nR K (tn 4) ?_
   refine cnd h ?_ ?_<;>intro h
   ·refine VW.skip <| sq <| VW.block <| sq ?_
    have⟨g28,h⟩:=gS h
    have⟨g29,h⟩:=gS h
    refine dr K [] [] [] [0, 1, 5, 25] [] (pu 2 (an g28 (pu 3 (an g29 (tn 2))))) trivial ?_
    refine cnd h ?_ ?_<;>intro h
    ·refine nR K (tn 1) ?_
     cases h; exact VW.ret (rt [])
    refine VW.skip <| nE K (tn 3) ?_
    exact aro [.ren [0, 1, 5] []] ⟨(wr (x20 + (1 : Int))), rfl, h⟩
   refine VW.exit ?_
   exact arv [.ren [] []] ⟨rfl, h⟩
 rintro s ⟨rfl, h⟩
 unfold F154_j0 at h
 refine nR K (tn 1) ?_
 cases h; exact VW.ret (rt [])
def F114 (N : Nat) (a0 : Z76) (a1 : Z76) : Option (Bool) :=
  cond (a0.1 == a1.1) (cond (a0.2.1.toList == a1.2.1.toList) (cond (a0.2.2.1 == a1.2.2.1) (cond (a0.2.2.2.1 == a1.2.2.2.1) (cond (a0.2.2.2.2.1 == a1.2.2.2.2.1) (cond (a0.2.2.2.2.2.1 == a1.2.2.2.2.2.1) (andO (F154 N a0.2.2.2.2.2.2 a1.2.2.2.2.2.2) fun y1 => some y1) (some false)) (some false)) (some false)) (some false)) (some false)) (some false)
theorem ok114 N a0 a1 {r} (h : F114 N a0 a1 = some r) : Con prog 114 [.agg (lv Y76 a0), .agg (lv Y76 a1)] [.lf (.v .bool r)] := by
 refine ctr [.lf (.v .bool)] K func114 rfl fun w0 E0 ht => ?_
 unfold F114 at h
 show VW _ _ _ _ _ (retQ _ _ _ _) _
 refine nR K (tn 3) <| sq <| VW.region <| nG K 6 (tn 6) ?_
 refine spB 10 h ?_ ?_<;>intro h
 ·refine nG K 7 (tn 7) ?_
  refine spB 17 h ?_ ?_<;>intro h
  ·refine nG K 7 (tn 7) ?_
   refine spB 24 h ?_ ?_<;>intro h
   ·refine nG K 7 (tn 7) ?_
    refine spB 31 h ?_ ?_<;>intro h
    ·refine sGh K 7 [2, 3, 38] [0, 1] [(2, .lf (.ptr 0 0 0 0)), (3, .lf (.ptr 1 0 0 0)), (38, B (a0.2.2.2.2.1 == a1.2.2.2.2.1))] (tn 7) ?_
     refine spB 38 h ?_ ?_<;>intro h
     ·refine nG K 7 (tn 7) ?_
      refine spB 45 h ?_ ?_<;>intro h
      ·refine nG K 4 (tn 4) <| VO.on (j := 40) (want := true) (d := 45) (b := true) rfl rfl rfl (by kernel_rfl) rfl ?_
       have⟨y1,hy,h⟩:=aS h
       refine cal false [.t (.sl (.int .i64)), .t (.sl (.int .i64))] [] (some 50) K (ok154 N _ _ hy) <| nN K (tn 2) ?_
       cases h; exact VW.ret (rt [])
      refine nN K (tn 7) ?_
      cases h; exact VW.ret (rt [])
     refine nN K (tn 14) ?_
     cases h; exact VW.ret (rt [])
    refine sN K [4] [] ⟨[(4, B false)], []⟩ (tn 21) ?_
    cases h; exact VW.ret (rt [])
   refine nN K (tn 28) ?_
   cases h; exact VW.ret (rt [])
  refine nN K (tn 35) ?_
  cases h; exact VW.ret (rt [])
 refine nN K (tn 42) ?_
 cases h; exact VW.ret (rt [])
def F76_j0 (N : Nat) : Option (Bool) :=
  some true
def F76_l0_b (N : Nat) (a0 : (List Z76)) (a1 : (List Z76)) (nx35 : Int → Option (Bool)) (x28 : Int) : Option (Bool) :=
  cond (decide (x28 < (a0.length : Int))) (gd (InR x28 a0.length) (gd (InR x28 a1.length) (andO (F114 N (a0.getD x28.toNat (Ty.dflt Y76)) (a1.getD x28.toNat (Ty.dflt Y76))) fun y41 => cond (!y41) (some false) (nx35 (IntKind.i64.wrap (x28 + (1 : Int))))))) (F76_j0 N)
def F76_l0 (N : Nat) (a0 : (List Z76)) (a1 : (List Z76)) := loopF (F76_l0_b N a0 a1) (fun _ => none)
theorem F76_l0_s N a0 a1 {k} (hk : 0 < k) x28 : F76_l0 N a0 a1 k x28 = F76_l0_b N a0 a1 (F76_l0 N a0 a1 (k - 1)) x28 := by cases k;cases hk;rfl
def F76 (N : Nat) (a0 : (List Z76)) (a1 : (List Z76)) : Option (Bool) :=
  cond ((a0.length : Int) != (a1.length : Int)) (some false) (F76_l0 N a0 a1 N (0 : Int))
theorem ok76 N a0 a1 {r} (h : F76 N a0 a1 = some r) : Con prog 76 [Vv (.sl Y76) a0, Vv (.sl Y76) a1] [.lf (.v .bool r)] := by
 refine ctr [.lf (.v .bool)] K func76 rfl fun w0 E0 ht => ?_
 unfold F76 at h
 show VW _ _ _ _ _ (retQ _ _ _ _) _
 refine nR K (tn 1) <| sq <| nR K (tn 5) ?_
 refine cnd h ?_ ?_<;>intro h
 ·refine nR K (tn 1) ?_
  cases h; exact VW.ret (rt [])
 refine VW.skip ?_
 refine VW.join (fun s => s = ⟨[], []⟩ ∧ F76_j0 N = some r) ?_ ?_
 ·refine nR K (tn 1) <| VW.block <| lop (fun k s => ∃ x28, s = ⟨[(0, Vv (.sl Y76) a0), (1, Vv (.sl Y76) a1), (5, I x28)], []⟩ ∧ F76_l0 N a0 a1 k x28 = some r) N [.ren [0, 1, 5] []] ⟨(0 : Int), rfl, h⟩ ?_
  rintro k35 s ⟨x28, rfl, h⟩
  cases k35 with
  | zero => cases show none = some r from h
  | succ k35 =>
   replace h : F76_l0_b N a0 a1 (F76_l0 N a0 a1 k35) x28 = some r := h
   unfold F76_l0_b at h
   refine sq <| nR K (tn 4) ?_
   refine cnd h ?_ ?_<;>intro h
   ·refine VW.skip <| sq <| VW.block <| sq ?_
    have⟨g39,h⟩:=gS h
    have⟨g40,h⟩:=gS h
    have⟨y41,hy41,h⟩:=aS h
    refine dr K [(8, .cl [] (some 25) [.lf (.v .bool y41)])] [(8, 0)] [] [0, 1, 5, 26] [] (pu 2 (an g39 (pu 3 (an g40 (tn 3))))) ⟨qC false [.t Y76, .t Y76] [] [] (some 25) K (ok114 N _ _ hy41), trivial⟩ ?_
    refine cnd h ?_ ?_<;>intro h
    ·refine nR K (tn 1) ?_
     cases h; exact VW.ret (rt [])
    refine VW.skip <| nE K (tn 3) ?_
    exact aro [.ren [0, 1, 5] []] ⟨(wr (x28 + (1 : Int))), rfl, h⟩
   refine VW.exit ?_
   exact arv [.ren [] []] ⟨rfl, h⟩
 rintro s ⟨rfl, h⟩
 unfold F76_j0 at h
 refine nR K (tn 1) ?_
 cases h; exact VW.ret (rt [])
def F35 (N : Nat) (a0 : (List Z82)) (a1 : (List Z76)) (a2 : (List Z76)) (a3 : (List Z35)) : Option (Bool) :=
  andO (F38 N a0 a1 a3) fun y1 => andO (F61 N a0 a1) fun y2 => cond y2 (cond (decide ((a3.length : Int) ≤ (20 : Int))) (cond (y1.2 == (a3.length : Int)) (andO (F76 N y1.1 a2) fun y3 => some y3) (some false)) (some false)) (some false)
theorem ok35 N a0 a1 a2 a3 {r} (h : F35 N a0 a1 a2 a3 = some r) : Con prog 35 [Vv (.sl Y82) a0, Vv (.sl Y76) a1, Vv (.sl Y76) a2, Vv (.sl Y35) a3] [.lf (.v .bool r)] := by
 refine ctr [.lf (.v .bool)] K func35 rfl fun w0 E0 ht => ?_
 unfold F35 at h
 show VW _ _ _ _ _ (retQ _ _ _ _) _
 refine nR K (tn 1) <| sq <| VW.region <| nG K 3 (tn 3) ?_
 have⟨y1,hy,h⟩:=aS h
 refine cal false [.t (.sl Y82), .t (.sl Y76), .t (.sl Y35)] [] (some 15) K (ok38 N _ _ _ hy) <| nN K (tn 5) <| sq <| VW.region <| nG K 2 (tn 2) ?_
 have⟨y2,hy,h⟩:=aS h
 refine cal false [.t (.sl Y82), .t (.sl Y76)] [] (some 20) K (ok61 N _ _ hy) <| nG K 1 (tn 1) ?_
 refine spB 21 h ?_ ?_<;>intro h
 ·refine sG K 5 [2, 3, 9, 10, 26] [] ⟨[(2, Vv (.sl Y76) a2), (3, Vv (.sl Y35) a3), (9, Vv (.sl Y76) y1.1), (10, I y1.2), (26, B (decide ((a3.length : Int) ≤ (20 : Int))))], []⟩ (tn 5) ?_
  refine spB 26 h ?_ ?_<;>intro h
  ·refine nG K 6 (tn 6) ?_
   refine spB 32 h ?_ ?_<;>intro h
   ·refine nG K 2 (tn 2) <| VO.on (j := 14) (want := true) (d := 32) (b := true) rfl rfl rfl (by kernel_rfl) rfl ?_
    have⟨y3,hy,h⟩:=aS h
    refine cal false [.t (.sl Y76), .t (.sl Y76)] [] (some 35) K (ok76 N _ _ hy) <| nN K (tn 2) ?_
    cases h; exact VW.ret (rt [])
   refine nN K (tn 5) ?_
   cases h; exact VW.ret (rt [])
  refine nN K (tn 11) ?_
  cases h; exact VW.ret (rt [])
 refine sN K [8] [] ⟨[(8, B false)], []⟩ (tn 16) ?_
 cases h; exact VW.ret (rt [])
def F36_j0 (N : Nat) (x30 : (List Z35)) : Option ((List Z35)) :=
  some x30
def F36_l0_b (N : Nat) (a0 : (List Z35)) (nx51 : (List Z35) → Int → Option ((List Z35))) (x41 : (List Z35)) (x42 : Int) : Option ((List Z35)) :=
  cond (decide (x42 < (a0.length : Int))) (gd (InR x42 a0.length) (andO (F23 N (a0.getD x42.toNat (Ty.dflt Y35))) fun y57 => gd (InR x42 x41.length) (gd (x42.toNat < x41.length) (nx51 (x41.set x42.toNat y57) (IntKind.i64.wrap (x42 + (1 : Int))))))) (F36_j0 N x41)
def F36_l0 (N : Nat) (a0 : (List Z35)) := loopF (F36_l0_b N a0) (fun _ _ => none)
theorem F36_l0_s N a0 {k} (hk : 0 < k) x41 x42 : F36_l0 N a0 k x41 x42 = F36_l0_b N a0 (F36_l0 N a0 (k - 1)) x41 x42 := by cases k;cases hk;rfl
def F36 (N : Nat) (a0 : (List Z35)) : Option ((List Z35)) :=
  gd (0 ≤ (a0.length : Int) ∧ (a0.length : Int) ≤ (lim Y35 : Int) ∧ (a0.length : Int) = (a0.length : Int)) (F36_l0 N a0 N (List.replicate (a0.length : Int).toNat (Ty.dflt Y35)) (0 : Int))
theorem ok36 N a0 {r} (h : F36 N a0 = some r) : Con prog 36 [Vv (.sl Y35) a0] [.lf (.own Y35 r .dp)] := by
 refine ctr [.lf (.own Y35 .dp)] K func36 rfl fun w0 E0 ht => ?_
 unfold F36 at h
 show VW _ _ _ _ _ (retQ _ _ _ _) _
 refine nR K (tn 1) ?_
 have⟨g1,h⟩:=gS h
 refine nR K (pu 2 (an g1 (tn 1))) ?_
 refine VW.join (fun s => ∃ x30, s = ⟨[(3, hh 0)], [ar 0 Y35 x30 .dp]⟩ ∧ F36_j0 N x30 = some r) ?_ ?_
 ·refine nR K (tn 1) <| VW.block <| lop (fun k s => ∃ x41 x42, s = ⟨[(0, Vv (.sl Y35) a0), (3, hh 0), (4, I x42)], [ar 0 Y35 x41 .dp]⟩ ∧ F36_l0 N a0 k x41 x42 = some r) N [.ren [0, 3, 4] [0]] ⟨(List.replicate (a0.length : Int).toNat D35), (0 : Int), rfl, h⟩ ?_
  rintro k51 s ⟨x41, x42, rfl, h⟩
  cases k51 with
  | zero => cases show none = some r from h
  | succ k51 =>
   replace h : F36_l0_b N a0 (F36_l0 N a0 k51) x41 x42 = some r := h
   unfold F36_l0_b at h
   refine sq <| nR K (tn 4) ?_
   refine cnd h ?_ ?_<;>intro h
   ·refine VW.skip <| sq <| VW.block <| VW.region ?_
    have⟨g56,h⟩:=gS h
    refine nG K 6 (pu 4 (an g56 (tn 1))) ?_
    have⟨y57,hy,h⟩:=aS h
    refine cal false [.t Y35] [] (some 20) K (ok23 N _ hy) ?_
    have⟨g58,h⟩:=gS h
    have⟨g59,h⟩:=gS h
    refine nN K (an g58 (an g59 (tn 0))) <| nE K (tn 3) ?_
    exact aro [.ren [0, 3, 4] [0]] ⟨(x41.set x42.toNat y57), (wr (x42 + (1 : Int))), rfl, h⟩
   refine VW.exit ?_
   exact arv [.ren [3] [0]] ⟨x41, rfl, h⟩
 rintro s ⟨x30, rfl, h⟩
 unfold F36_j0 at h
 refine nR K (tn 2) ?_
 cases h; exact VW.ret (rt [some 0])
def F39_j0 (N : Nat) (a2 : (List Z35)) (x19 : (List Z76)) : Option ((List Z76) × Int) :=
  some (x19, (a2.length : Int))
def F39_l0_b (N : Nat) (a0 : (List Z82)) (a2 : (List Z35)) (nx33 : (List Z76) → Int → Int → Option ((List Z76) × Int)) (x26 : (List Z76)) (x27 : Int) (x28 : Int) : Option ((List Z76) × Int) :=
  cond (decide (x28 < x27)) (gd (InR x28 a2.length) (andO (F24 N a0 x26 (a2.getD x28.toNat (Ty.dflt Y35))) fun y37 => cond (!y37.2) (some (x26, x28)) (nx33 y37.1 x27 (IntKind.i64.wrap (x28 + (1 : Int)))))) (F39_j0 N a2 x26)
def F39_l0 (N : Nat) (a0 : (List Z82)) (a2 : (List Z35)) := loopF (F39_l0_b N a0 a2) (fun _ _ _ => none)
theorem F39_l0_s N a0 a2 {k} (hk : 0 < k) x26 x27 x28 : F39_l0 N a0 a2 k x26 x27 x28 = F39_l0_b N a0 a2 (F39_l0 N a0 a2 (k - 1)) x26 x27 x28 := by cases k;cases hk;rfl
def F39 (N : Nat) (a0 : (List Z82)) (a1 : (List Z76)) (a2 : (List Z35)) : Option ((List Z76) × Int) :=
  andO (F70 N a1) fun y1 => cond (decide ((a2.length : Int) > (20 : Int))) (some (y1, (0 : Int))) (F39_l0 N a0 a2 N y1 (a2.length : Int) (0 : Int))
theorem ok39 N a0 a1 a2 {r} (h : F39 N a0 a1 a2 = some r) : Con prog 39 [Vv (.sl Y82) a0, Vv (.sl Y76) a1, Vv (.sl Y35) a2] [.lf (.own Y76 r.1 .dp), .lf (.v (.int .i64) r.2)] := by
 refine ctr [.lf (.own Y76 .dp), .lf (.v (.int .i64))] K func39 rfl fun w0 E0 ht => ?_
 unfold F39 at h
 show VW _ _ _ _ _ (retQ _ _ _ _) _
 refine nR K (tn 2) <| sq <| VW.region <| nG K 1 (tn 1) ?_
 have⟨y1,hy,h⟩:=aS h
 refine cal false [.t (.sl Y76)] [] (some 14) K (ok70 N _ hy) <| nN K (tn 1) <| sq <| nR K (tn 3) ?_
 refine cnd h ?_ ?_<;>intro h
 ·refine nR K (tn 3) ?_
  cases h; exact VW.ret (rt [some 0])
 refine VW.skip ?_
 refine VW.join (fun s => ∃ x19, s = ⟨[(2, Vv (.sl Y35) a2), (8, hh 0)], [ar 0 Y76 x19 .dp]⟩ ∧ F39_j0 N a2 x19 = some r) ?_ ?_
 ·refine nR K (tn 3) <| VW.block <| lop (fun k s => ∃ x26 x27 x28, s = ⟨[(0, Vv (.sl Y82) a0), (2, Vv (.sl Y35) a2), (8, hh 0), (19, Vv (.sl Y35) a2), (20, I x27), (21, I x28)], [ar 0 Y76 x26 .dp]⟩ ∧ F39_l0 N a0 a2 k x26 x27 x28 = some r) N [.ren [0, 2, 8, 19, 20, 21] [0]] ⟨y1, (a2.length : Int), (0 : Int), rfl, h⟩ ?_
  rintro k33 s ⟨x26, x27, x28, rfl, h⟩
  cases k33 with
  | zero => cases show none = some r from h
  | succ k33 =>
   replace h : F39_l0_b N a0 a2 (F39_l0 N a0 a2 k33) x26 x27 x28 = some r := h
   unfold F39_l0_b at h
   refine nR K (tn 1) <| sq ?_
   refine cnd h ?_ ?_<;>intro h
   ·refine VW.skip <| sq <| VW.block ?_
    have⟨g36,h⟩:=gS h
    refine nR K (pu 1 (an g36 (tn 4))) <| sq <| VW.region <| nG K 3 (tn 3) ?_
    have⟨y37,hy,h⟩:=aS h
    refine cal true [.t (.sl Y82), .t (.sl Y76), .t Y35] [] (some 30) K (ok24 N _ _ _ hy) <| nN K (tn 5) <| sq <| nR K (tn 2) ?_
    refine cnd h ?_ ?_<;>intro h
    ·refine sR K [6, 7] [0] ⟨[(6, hh 0), (7, I x28)], [ar 0 Y76 x26 .dp]⟩ (tn 4) ?_
     cases h; exact VW.ret (rt [some 0])
    refine VW.skip <| rR K [0, 2, 8, 19, 20, 21] [2] ⟨[(0, Vv (.sl Y82) a0), (2, Vv (.sl Y35) a2), (8, hh 0), (19, Vv (.sl Y35) a2), (20, I x27), (21, I x28)], [ar 0 Y76 y37.1 .dp]⟩ (tn 2) <| nE K (tn 2) ?_
    exact aro [.ren [0, 2, 8, 19, 20, 21] [0]] ⟨y37.1, x27, (wr (x28 + (1 : Int))), rfl, h⟩
   refine VW.exit ?_
   exact arv [.ren [2, 8] [0]] ⟨x26, rfl, h⟩
 rintro s ⟨x19, rfl, h⟩
 unfold F39_j0 at h
 refine nR K (tn 5) ?_
 cases h; exact VW.ret (rt [some 0])
def F93_j0 (N : Nat) : Option (Bool) :=
  some true
def F93_l0_b (N : Nat) (a0 : (List Z76)) (a1 : (List Z76)) (p2 : Z76 → Z76 → Option (Bool)) (nx39 : Int → Int → Option (Bool)) (x31 : Int) (x32 : Int) : Option (Bool) :=
  cond (decide (x32 < x31)) (gd (InR x32 a0.length) (gd (InR x32 a1.length) (andO (p2 (a0.getD x32.toNat (Ty.dflt Y76)) (a1.getD x32.toNat (Ty.dflt Y76))) fun y45 => cond (!y45) (some false) (nx39 x31 (IntKind.i64.wrap (x32 + (1 : Int))))))) (F93_j0 N)
def F93_l0 (N : Nat) (a0 : (List Z76)) (a1 : (List Z76)) (p2 : Z76 → Z76 → Option (Bool)) := loopF (F93_l0_b N a0 a1 p2) (fun _ _ => none)
theorem F93_l0_s N a0 a1 (p2 : Z76 → Z76 → Option (Bool)) {k} (hk : 0 < k) x31 x32 : F93_l0 N a0 a1 p2 k x31 x32 = F93_l0_b N a0 a1 p2 (F93_l0 N a0 a1 p2 (k - 1)) x31 x32 := by cases k;cases hk;rfl
def F93 (N : Nat) (a0 : (List Z76)) (a1 : (List Z76)) (p2 : Z76 → Z76 → Option (Bool)) : Option (Bool) :=
  cond ((a0.length : Int) != (a1.length : Int)) (some false) (F93_l0 N a0 a1 p2 N (a0.length : Int) (0 : Int))
theorem ok93 N a0 a1 (g2 : FuncId) (p2 : Z76 → Z76 → Option (Bool)) (hp2 : ∀ (z0 : Z76) (z1 : Z76) (r : Bool), p2 z0 z1 = some r → Con prog g2 [.agg (lv Y76 z0), .agg (lv Y76 z1)] [.lf (.v .bool r)]) {r} (h : F93 N a0 a1 p2 = some r) : Con prog 93 [Vv (.sl Y76) a0, Vv (.sl Y76) a1, .clo g2 []] [.lf (.v .bool r)] := by
 refine ctr [.lf (.v .bool)] K func93 rfl fun w0 E0 ht => ?_
 unfold F93 at h
 show VW _ _ _ _ _ (retQ _ _ _ _) _
 refine nR K (tn 1) <| sq <| nR K (tn 5) ?_
 refine cnd h ?_ ?_<;>intro h
 ·refine nR K (tn 1) ?_
  cases h; exact VW.ret (rt [])
 refine VW.skip ?_
 refine VW.join (fun s => s = ⟨[], []⟩ ∧ F93_j0 N = some r) ?_ ?_
 ·refine nR K (tn 3) <| VW.block <| lop (fun k s => ∃ x31 x32, s = ⟨[(1, Vv (.sl Y76) a1), (2, .clo g2 []), (15, Vv (.sl Y76) a0), (16, I x31), (17, I x32)], []⟩ ∧ F93_l0 N a0 a1 p2 k x31 x32 = some r) N [.ren [1, 2, 15, 16, 17] []] ⟨(a0.length : Int), (0 : Int), rfl, h⟩ ?_
  rintro k39 s ⟨x31, x32, rfl, h⟩
  cases k39 with
  | zero => cases show none = some r from h
  | succ k39 =>
   replace h : F93_l0_b N a0 a1 p2 (F93_l0 N a0 a1 p2 k39) x31 x32 = some r := h
   unfold F93_l0_b at h
   refine nR K (tn 1) <| sq ?_
   refine cnd h ?_ ?_<;>intro h
   ·refine VW.skip <| sq <| VW.block ?_
    have⟨g43,h⟩:=gS h
    refine nR K (pu 1 (an g43 (tn 4))) ?_
    have⟨g44,h⟩:=gS h
    refine nR K (pu 2 (an g44 (tn 3))) <| sq <| VW.region <| nG K 3 (tn 3) ?_
    have⟨y45,hy,h⟩:=aS h
    refine cal false [.t Y76, .t Y76] [] (some 29) K (hp2 _ _ _ hy) <| nN K (tn 1) ?_
    refine cnd h ?_ ?_<;>intro h
    ·refine sR K [6] [] ⟨[(6, B false)], []⟩ (tn 1) ?_
     cases h; exact VW.ret (rt [])
    refine VW.skip <| rR K [1, 2, 15, 16, 17] [] ⟨[(1, Vv (.sl Y76) a1), (2, .clo g2 []), (15, Vv (.sl Y76) a0), (16, I x31), (17, I (wr (x32 + (1 : Int))))], []⟩ (tn 2) ?_
    exact aro [.ren [1, 2, 15, 16, 17] []] ⟨x31, (wr (x32 + (1 : Int))), rfl, h⟩
   refine VW.exit ?_
   exact arv [.ren [] []] ⟨rfl, h⟩
 rintro s ⟨rfl, h⟩
 unfold F93_j0 at h
 refine nR K (tn 1) ?_
 cases h; exact VW.ret (rt [])
def F49 (N : Nat) (a0 : (List Z76)) (a1 : (List Z76)) : Option (Bool) :=
  andO (F93 N a0 a1 (fun z0 z1 => F94 N z0 z1)) fun y1 => some y1
theorem ok49 N a0 a1 {r} (h : F49 N a0 a1 = some r) : Con prog 49 [Vv (.sl Y76) a0, Vv (.sl Y76) a1] [.lf (.v .bool r)] := by
 refine ctr [.lf (.v .bool)] K func49 rfl fun w0 E0 ht => ?_
 unfold F49 at h
 show VW _ _ _ _ _ (retQ _ _ _ _) _
 refine nR K (tn 1) <| sq <| VW.region <| nG K 2 (tn 2) ?_
 have⟨y1,hy,h⟩:=aS h
 refine cal false [.t (.sl Y76), .t (.sl Y76), .clo []] [] (some 7) K (ok93 N _ _ 94  (fun z0 z1 => F94 N z0 z1 ) (fun z0 z1 _ hz => ok94 N z0 z1 hz) hy) <| nN K (tn 1) ?_
 cases h; exact VW.ret (rt [])
def F37 (N : Nat) (a0 : (List Z82)) (a1 : (List Z76)) (a2 : (List Z76)) (a3 : (List Z35)) : Option (Bool) :=
  andO (F69 N a0 a1) fun y2 => cond (!y2) (some false) (cond (decide ((a3.length : Int) > (20 : Int))) (some false) (andO (F39 N a0 a1 a3) fun y3 => cond (y3.2 == (a3.length : Int)) (andO (F49 N y3.1 a2) fun y4 => some y4) (some false)))
theorem ok37 N a0 a1 a2 a3 {r} (h : F37 N a0 a1 a2 a3 = some r) : Con prog 37 [Vv (.sl Y82) a0, Vv (.sl Y76) a1, Vv (.sl Y76) a2, Vv (.sl Y35) a3] [.lf (.v .bool r)] := by
 refine ctr [.lf (.v .bool)] K func37 rfl fun w0 E0 ht => ?_
 unfold F37 at h
 show VW _ _ _ _ _ (retQ _ _ _ _) _
 refine nR K (tn 1) <| sq <| sq <| VW.region <| nG K 2 (tn 2) ?_
 have⟨y2,hy,h⟩:=aS h
 refine cal false [.t (.sl Y82), .t (.sl Y76)] [] (some 13) K (ok69 N _ _ hy) <| nG K 2 (tn 2) ?_
 refine spB 15 h ?_ ?_<;>intro h
 ·refine nN K (tn 4) ?_
  refine VW.cond (b := true) (by kernel_rfl) (fun _ => ?_) (fun h' => nomatch h')
  refine nR K (tn 1) ?_
  cases h; exact VW.ret (rt [])
 refine nN K (tn 4) ?_
 refine cnd h ?_ ?_<;>intro h
 ·refine nR K (tn 1) ?_
  cases h; exact VW.ret (rt [])
 refine VW.skip <| sq <| VW.region <| nG K 3 (tn 3) ?_
 have⟨y3,hy,h⟩:=aS h
 refine cal false [.t (.sl Y82), .t (.sl Y76), .t (.sl Y35)] [] (some 24) K (ok39 N _ _ _ hy) <| sNh K [2, 3, 9, 10] [0] [(2, Vv (.sl Y76) a2), (3, Vv (.sl Y35) a3), (9, hh 0), (10, I y3.2)] (tn 5) <| sq <| VW.region <| nG K 5 (tn 5) ?_
 refine spB 31 h ?_ ?_<;>intro h
 ·refine nG K 2 (tn 2) <| VO.on (j := 4) (want := true) (d := 31) (b := true) rfl rfl rfl (by kernel_rfl) rfl ?_
  have⟨y4,hy,h⟩:=aS h
  refine cal true [.t (.sl Y76), .t (.sl Y76)] [] (some 34) K (ok49 N _ _ hy) <| nN K (tn 2) ?_
  cases h; exact VW.ret (rt [])
 refine nN K (tn 5) ?_
 cases h; exact VW.ret (rt [])
def F7 (N : Nat) (a0 : (List Z82)) (a1 : (List Z76)) (a2 : (List Z76)) (a3 : (List Z35)) : Option (Bool) :=
  andO (F20 N a0 (1048576 : Int)) fun y1 => cond (decide (y1 < (0 : Int))) (some true) (andO (F15 N a1 y1) fun y2 => cond (decide (y2 < (0 : Int))) (some true) (andO (F15 N a2 y2) fun y3 => cond (decide (y3 < (0 : Int))) (some true) (andO (F34 N a3 y3) fun y4 => cond (decide (y4 < (0 : Int))) (some true) (andO (F22 N a0) fun y5 => andO (F17 N a1) fun y6 => andO (F17 N a2) fun y7 => andO (F36 N a3) fun y8 => andO (F35 N y5 y6 y7 y8) fun y9 => andO (F22 N a0) fun y10 => andO (F17 N a1) fun y11 => andO (F17 N a2) fun y12 => andO (F36 N a3) fun y13 => andO (F37 N y10 y11 y12 y13) fun y14 => cond (!(y14 == y9)) (some false) (andO (F22 N a0) fun y17 => andO (F25 N y10 y17) fun y18 => cond (!y18) (some false) (andO (F17 N a1) fun y21 => andO (F19 N y11 y21) fun y22 => cond (!y22) (some false) (andO (F17 N a2) fun y25 => andO (F19 N y12 y25) fun y26 => cond (!y26) (some false) (andO (F36 N a3) fun y29 => andO (F31 N y13 y29) fun y30 => cond (!y30) (some false) (some true)))))))))
theorem ok7 N a0 a1 a2 a3 {r} (h : F7 N a0 a1 a2 a3 = some r) : Con prog 7 [Vv (.sl Y82) a0, Vv (.sl Y76) a1, Vv (.sl Y76) a2, Vv (.sl Y35) a3] [.lf (.v .bool r)] := by
 refine ctr [.lf (.v .bool)] K func7 rfl fun w0 E0 ht => ?_
 unfold F7 at h
 show VW _ _ _ _ _ (retQ _ _ _ _) _
 refine nR K (tn 1) <| nR K (tn 1) <| sq <| VW.region <| nG K 2 (tn 2) ?_
 have⟨y1,hy,h⟩:=aS h
 refine cal false [.t (.sl Y82), .t (.int .i64)] [] (some 18) K (ok20 N _ _ hy) <| nN K (tn 1) <| sq <| nR K (tn 2) ?_
 refine cnd h ?_ ?_<;>intro h
 ·refine sR K [8] [] ⟨[(8, B true)], []⟩ (tn 1) ?_
  cases h; exact VW.ret (rt [])
 refine VW.skip <| sq <| VW.region <| sG K 2 [0, 1, 2, 3, 21, 22] [] ⟨[(0, Vv (.sl Y82) a0), (1, Vv (.sl Y76) a1), (2, Vv (.sl Y76) a2), (3, Vv (.sl Y35) a3), (21, Vv (.sl Y76) a1), (22, I y1)], []⟩ (tn 2) ?_
 have⟨y2,hy,h⟩:=aS h
 refine cal false [.t (.sl Y76), .t (.int .i64)] [] (some 23) K (ok15 N _ _ hy) <| nN K (tn 1) <| sq <| nR K (tn 2) ?_
 refine cnd h ?_ ?_<;>intro h
 ·refine nR K (tn 1) ?_
  cases h; exact VW.ret (rt [])
 refine VW.skip <| sq <| VW.region <| nG K 2 (tn 2) ?_
 have⟨y3,hy,h⟩:=aS h
 refine cal false [.t (.sl Y76), .t (.int .i64)] [] (some 28) K (ok15 N _ _ hy) <| nN K (tn 1) <| sq <| nR K (tn 2) ?_
 refine cnd h ?_ ?_<;>intro h
 ·refine sR K [8] [] ⟨[(8, B true)], []⟩ (tn 1) ?_
  cases h; exact VW.ret (rt [])
 refine VW.skip <| sq <| VW.region <| sG K 2 [0, 1, 2, 3, 31, 32] [] ⟨[(0, Vv (.sl Y82) a0), (1, Vv (.sl Y76) a1), (2, Vv (.sl Y76) a2), (3, Vv (.sl Y35) a3), (31, Vv (.sl Y35) a3), (32, I y3)], []⟩ (tn 2) ?_
 have⟨y4,hy,h⟩:=aS h
 refine cal false [.t (.sl Y35), .t (.int .i64)] [] (some 33) K (ok34 N _ _ hy) <| nN K (tn 1) <| sq <| nR K (tn 2) ?_
 refine cnd h ?_ ?_<;>intro h
 ·refine nR K (tn 1) ?_
  cases h; exact VW.ret (rt [])
 refine VW.skip <| sq <| VW.region <| nG K 1 (tn 1) ?_
 have⟨y5,hy,h⟩:=aS h
 refine cal false [.t (.sl Y82)] [] (some 37) K (ok22 N _ hy) <| nG K 1 (tn 1) ?_
 have⟨y6,hy,h⟩:=aS h
 refine cal false [.t (.sl Y76)] [] (some 39) K (ok17 N _ hy) <| nG K 1 (tn 1) ?_
 have⟨y7,hy,h⟩:=aS h
 refine cal false [.t (.sl Y76)] [] (some 41) K (ok17 N _ hy) <| sGh K 1 [0, 1, 2, 3, 37, 39, 41, 42] [0, 1, 2] [(0, Vv (.sl Y82) a0), (1, Vv (.sl Y76) a1), (2, Vv (.sl Y76) a2), (3, Vv (.sl Y35) a3), (37, hh 0), (39, hh 1), (41, hh 2), (42, Vv (.sl Y35) a3)] (tn 1) ?_
 have⟨y8,hy,h⟩:=aS h
 refine cal false [.t (.sl Y35)] [] (some 43) K (ok36 N _ hy) ?_
 have⟨y9,hy,h⟩:=aS h
 refine cal true [.t (.sl Y82), .t (.sl Y76), .t (.sl Y76), .t (.sl Y35)] [] (some 44) K (ok35 N _ _ _ _ hy) <| nN K (tn 1) <| sq <| VW.region <| nG K 1 (tn 1) ?_
 have⟨y10,hy,h⟩:=aS h
 refine cal false [.t (.sl Y82)] [] (some 46) K (ok22 N _ hy) <| nN K (tn 1) <| sq <| VW.region <| nG K 1 (tn 1) ?_
 have⟨y11,hy,h⟩:=aS h
 refine cal false [.t (.sl Y76)] [] (some 48) K (ok17 N _ hy) <| nN K (tn 1) <| sq <| VW.region <| sG K 1 [0, 1, 2, 3, 10, 11, 12, 49] [4, 5] ⟨[(0, Vv (.sl Y82) a0), (1, Vv (.sl Y76) a1), (2, Vv (.sl Y76) a2), (3, Vv (.sl Y35) a3), (10, B y9), (11, hh 0), (12, hh 1), (49, Vv (.sl Y76) a2)], [ar 0 Y82 y10 .dp, ar 0 Y76 y11 .dp]⟩ (tn 1) ?_
 have⟨y12,hy,h⟩:=aS h
 refine cal false [.t (.sl Y76)] [] (some 50) K (ok17 N _ hy) <| nN K (tn 1) <| sq <| VW.region <| nG K 1 (tn 1) ?_
 have⟨y13,hy,h⟩:=aS h
 refine cal false [.t (.sl Y35)] [] (some 52) K (ok36 N _ hy) <| nN K (tn 1) <| sq <| VW.region <| nG K 4 (tn 4) ?_
 have⟨y14,hy,h⟩:=aS h
 refine cal true [.t (.sl Y82), .t (.sl Y76), .t (.sl Y76), .t (.sl Y35)] [] (some 57) K (ok37 N _ _ _ _ hy) <| nN K (tn 1) <| sq <| sRh K [0, 1, 2, 3, 11, 12, 13, 14, 60] [0, 1, 2, 3] [(0, Vv (.sl Y82) a0), (1, Vv (.sl Y76) a1), (2, Vv (.sl Y76) a2), (3, Vv (.sl Y35) a3), (11, hh 0), (12, hh 1), (13, hh 2), (14, hh 3), (60, B (!(y14 == y9)))] (tn 3) ?_
 refine cnd h ?_ ?_<;>intro h
 ·refine nR K (tn 1) ?_
  cases h; exact VW.ret (rt [])
 refine VW.skip <| sq <| sq <| VW.region <| nG K 2 (tn 2) ?_
 have⟨y17,hy,h⟩:=aS h
 refine cal false [.t (.sl Y82)] [] (some 63) K (ok22 N _ hy) ?_
 have⟨y18,hy,h⟩:=aS h
 refine cal true [.t (.sl Y82), .t (.sl Y82)] [] (some 64) K (ok25 N _ _ hy) <| nN K (tn 1) ?_
 refine cnd h ?_ ?_<;>intro h
 ·refine nR K (tn 1) ?_
  cases h; exact VW.ret (rt [])
 refine VW.skip <| sq <| sq <| VW.region <| nG K 2 (tn 2) ?_
 have⟨y21,hy,h⟩:=aS h
 refine cal false [.t (.sl Y76)] [] (some 68) K (ok17 N _ hy) ?_
 have⟨y22,hy,h⟩:=aS h
 refine cal true [.t (.sl Y76), .t (.sl Y76)] [] (some 69) K (ok19 N _ _ hy) <| nN K (tn 1) ?_
 refine cnd h ?_ ?_<;>intro h
 ·refine nR K (tn 1) ?_
  cases h; exact VW.ret (rt [])
 refine VW.skip <| sq <| sq <| VW.region <| nG K 2 (tn 2) ?_
 have⟨y25,hy,h⟩:=aS h
 refine cal false [.t (.sl Y76)] [] (some 73) K (ok17 N _ hy) ?_
 have⟨y26,hy,h⟩:=aS h
 refine cal true [.t (.sl Y76), .t (.sl Y76)] [] (some 74) K (ok19 N _ _ hy) <| sN K [3, 14, 75] [3] ⟨[(3, Vv (.sl Y35) a3), (14, hh 0), (75, B (!y26))], [ar 0 Y35 y13 .dp]⟩ (tn 1) ?_
 refine cnd h ?_ ?_<;>intro h
 ·refine nR K (tn 1) ?_
  cases h; exact VW.ret (rt [])
 refine VW.skip <| sq <| sq <| VW.region <| nG K 2 (tn 2) ?_
 have⟨y29,hy,h⟩:=aS h
 refine cal false [.t (.sl Y35)] [] (some 78) K (ok36 N _ hy) ?_
 have⟨y30,hy,h⟩:=aS h
 refine cal true [.t (.sl Y35), .t (.sl Y35)] [] (some 79) K (ok31 N _ _ hy) <| nN K (tn 1) ?_
 refine cnd h ?_ ?_<;>intro h
 ·refine nR K (tn 1) ?_
  cases h; exact VW.ret (rt [])
 refine VW.skip <| nR K (tn 1) ?_
 cases h; exact VW.ret (rt [])
end Go.Proofs.Ytjbahkjjgciooaa.Vc
