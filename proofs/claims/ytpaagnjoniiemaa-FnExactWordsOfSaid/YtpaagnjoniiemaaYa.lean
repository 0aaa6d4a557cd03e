/- What functions of the program compute, and that they do. -/
import Derived.Test.YtpaagnjoniiemaaXb
import Derived.Test.YtpaagnjoniiemaaProg
import Derived.Test.YtpaagnjoniiemaaShelf
namespace Go.Proofs.Ytpaagnjoniiemaa.Vc
open Go Go.RowKit Go.Proofs.Try
set_option linter.unusedVariables false
set_option maxRecDepth 100000
set_option maxHeartbeats 4000000
abbrev Y7 : Ty := .pair (.int .i64) (.pair (.int .i64) (.pair .bool (.int .u8)))
abbrev Y13 : Ty := .pair .str (.int .u64)
abbrev Y31 : Ty := .pair (.int .i64) (.int .i64)
def TL : List (Nat × TI) := [(2, { ty := (.int .i64) }),
  (3, { ty := (.int .i64) }),
  (4, { ty := .bool }),
  (5, { ty := (.int .u8) }),
  (6, { ty := (.int .u8) }),
  (7, { ty := Y7, offs := [0, 1, 2, 3], szs := [1, 1, 1, 1] }),
  (8, { ty := Y7, offs := [0, 1, 2, 3], szs := [1, 1, 1, 1] }),
  (9, { ty := .str }),
  (10, { ty := .str }),
  (11, { ty := .str }),
  (12, { ty := (.int .u64) }),
  (13, { ty := Y13, offs := [0, 1], szs := [1, 1] }),
  (14, { ty := Y13, offs := [0, 1], szs := [1, 1] }),
  (21, { ty := (.int .i32) }),
  (22, { ty := (.sl .str), elem := 9 }),
  (30, { ty := (.sl Y31), elem := 32 }),
  (31, { ty := Y31, offs := [0, 1], szs := [1, 1] }),
  (32, { ty := Y31, offs := [0, 1], szs := [1, 1] }),
  (33, { ty := (.sl (.int .u8)), elem := 5 }),
  (41, { ty := (.int .u32) }),
  (42, { ty := (.int .u8) }),
  (43, { ty := (.int .u8) }),
  (46, { ty := (.int .i32) }),
  (47, { ty := (.int .i32) })]
abbrev T : Tab := lookT TL
theorem T_ok : TabOk Go.Proofs.Try.prog T := tabOk_of TL (by kernel_rfl)
theorem K : TabOk Go.Proofs.Try.prog T := T_ok
theorem T_rec : RecOk Go.Proofs.Try.prog T := recOk_of TL (by kernel_rfl)
def F4_j0 (N : Nat) (x92 : (List ByteArray)) : Option ((List ByteArray)) :=
  some x92
def F4_j1 (N : Nat) (nx155 : (List ByteArray) → ByteArray → Int → Option ((List ByteArray))) (x125 : Int) (x169 : (List ByteArray)) (x170 : ByteArray) : Option ((List ByteArray)) :=
  nx155 x169 x170 (IntKind.i64.wrap (x125 + (1 : Int)))
def F4_j2 (N : Nat) (nx155 : (List ByteArray) → ByteArray → Int → Option ((List ByteArray))) (x125 : Int) (x177 : (List ByteArray)) : Option ((List ByteArray)) :=
  F4_j1 N nx155 x125 x177 ByteArray.empty
def F4_j3 (N : Nat) (nx155 : (List ByteArray) → ByteArray → Int → Option ((List ByteArray))) (x123 : (List ByteArray)) (x124 : ByteArray) (x125 : Int) : Option ((List ByteArray)) :=
  cond (!(x124.toList == ByteArray.empty.toList)) (gd (x123.length + ([x124]).length ≤ lim .str) (F4_j2 N nx155 x125 (x123 ++ ([x124])))) (F4_j2 N nx155 x125 x123)
def F4_l0_b (N : Nat) (a0 : ByteArray) (nx155 : (List ByteArray) → ByteArray → Int → Option ((List ByteArray))) (x123 : (List ByteArray)) (x124 : ByteArray) (x125 : Int) : Option ((List ByteArray)) :=
  cond (decide (x125 ≤ (a0.size : Int))) (cond (decide (x125 < (a0.size : Int))) (gd (InR x125 a0.size) (cond (((a0.data.getD x125.toNat 0).toNat : Int) != (32 : Int)) (gd (InR x125 a0.size) (cond (((a0.data.getD x125.toNat 0).toNat : Int) != (10 : Int)) (gd (0 ≤ x125 ∧ x125 ≤ (IntKind.i64.wrap (x125 + (1 : Int))) ∧ (IntKind.i64.wrap (x125 + (1 : Int))) ≤ (a0.size : Int)) (gd (x124.size + (a0.extract x125.toNat (IntKind.i64.wrap (x125 + (1 : Int))).toNat).size ≤ 9223372036854775807) (F4_j1 N nx155 x125 x123 (x124 ++ (a0.extract x125.toNat (IntKind.i64.wrap (x125 + (1 : Int))).toNat))))) (F4_j3 N nx155 x123 x124 x125))) (F4_j3 N nx155 x123 x124 x125))) (F4_j3 N nx155 x123 x124 x125)) (F4_j0 N x123)
def F4_l0 (N : Nat) (a0 : ByteArray) := loopF (F4_l0_b N a0) (fun _ _ _ => none)
theorem F4_l0_s N a0 {k} (hk : 0 < k) x123 x124 x125 : F4_l0 N a0 k x123 x124 x125 = F4_l0_b N a0 (F4_l0 N a0 (k - 1)) x123 x124 x125 := by cases k;cases hk;rfl
def F4 (N : Nat) (a0 : ByteArray) : Option ((List ByteArray)) :=
  cond (decide ((a0.size : Int) > (2000 : Int))) (some ([])) (F4_l0 N a0 N ([]) ByteArray.empty (0 : Int))
theorem ok4 N a0 {r} (h : F4 N a0 = some r) : Con prog 4 [S a0] [.lf (.own .str r .dp)] := by
 refine ctr [.lf (.own .str .dp)] K func4 rfl fun w0 E0 ht => ?_
 unfold F4 at h
 show VW _ _ _ _ _ (retQ _ _ _ _) _
 refine nR K (tn 1) <| nR K (tn 2) <| sq <| nR K (tn 3) ?_
 refine cnd h ?_ ?_<;>intro h
 ·refine nR K (tn 1) ?_
  cases h; exact VW.ret (rt [none])
 refine VW.skip <| nR K (tn 1) ?_
 refine VW.join (fun s => ∃ x92, s = ⟨[(3, hh 0)], [ar 0 .str x92 .dp]⟩ ∧ F4_j0 N x92 = some r) ?_ ?_
 ·refine nR K (tn 1) <| VW.block <| lop (fun k s => ∃ x123 x124 x125, s = ⟨[(0, S a0), (3, hh 0), (4, S x124), (5, I x125)], [ar 0 .str x123 .dp]⟩ ∧ F4_l0 N a0 k x123 x124 x125 = some r) N [.nilS 3 .str .dp, .ren [0, 3, 4, 5] [0]] ⟨[], ByteArray.empty, (0 : Int), rfl, h⟩ ?_
  rintro k155 s ⟨x123, x124, x125, rfl, h⟩
  cases k155 with
  | zero => cases show none = some r from h
  | succ k155 =>
   replace h : F4_l0_b N a0 (F4_l0 N a0 k155) x123 x124 x125 = some r := h
   unfold F4_l0_b at h
   refine sq <| nR K (tn 4) ?_
   refine cnd h ?_ ?_<;>intro h
   ·refine VW.skip ?_
    refine VW.join (fun s => ∃ x169 x170, s = ⟨[(0, S a0), (3, hh 0), (4, S x170), (5, I x125)], [ar 0 .str x169 .dp]⟩ ∧ F4_j1 N (F4_l0 N a0 k155) x125 x169 x170 = some r) ?_ ?_
    ·refine VW.block ?_
     refine VW.join (fun s => s = ⟨[(0, S a0), (3, hh 0), (4, S x124), (5, I x125)], [ar 0 .str x123 .dp]⟩ ∧ F4_j3 N (F4_l0 N a0 k155) x123 x124 x125 = some r) ?_ ?_
     ·refine sq <| VW.region <| nG K 5 (tn 5) ?_
      refine spC 20 h ?_ ?_<;>intro h
      ·obtain⟨g181,h⟩:=gS h
       refine nG K 6 (pu 2 (an g181 (tn 3))) ?_
       refine spC 26 h ?_ ?_<;>intro h
       ·obtain⟨g182,h⟩:=gS h
        refine nN K (pu 2 (an g182 (tn 2))) ?_
        refine cnd h ?_ ?_<;>intro h
        ·obtain⟨g183,h⟩:=gS h
         obtain⟨g184,h⟩:=gS h
         refine nR K (pu 5 (an g183 (an g184 (tn 1)))) <| VW.exit ?_
         exact arv [.ren [0, 3, 4, 5] [0]] ⟨x123, (x124 ++ (a0.extract x125.toNat (wr (x125 + (1 : Int))).toNat)), rfl, h⟩
        refine VW.skip ?_
        exact arv [.ren [0, 3, 4, 5] [0]] ⟨rfl, h⟩
       refine nN K (tn 5) ?_
       refine VW.cond (b := false) (by kernel_rfl) (fun h' => nomatch h') (fun _ => ?_)
       refine VW.skip ?_
       exact arv [.ren [0, 3, 4, 5] [0]] ⟨rfl, h⟩
      refine nN K (tn 11) ?_
      refine VW.cond (b := false) (by kernel_rfl) (fun h' => nomatch h') (fun _ => ?_)
      refine VW.skip ?_
      exact arv [.ren [0, 3, 4, 5] [0]] ⟨rfl, h⟩
     rintro s ⟨rfl, h⟩
     unfold F4_j3 at h
     refine VW.join (fun s => ∃ x177, s = ⟨[(0, S a0), (3, hh 0), (5, I x125)], [ar 0 .str x177 .dp]⟩ ∧ F4_j2 N (F4_l0 N a0 k155) x125 x177 = some r) ?_ ?_
     ·refine nR K (tn 2) ?_
      refine cnd h ?_ ?_<;>intro h
      ·obtain⟨g179,h⟩:=gS h
       refine nE K (pu 3 (an g179 (tn 1))) ?_
       exact arv [.ren [0, 3, 5] [0]] ⟨(x123 ++ ([x124])), rfl, h⟩
      refine VW.skip ?_
      exact arv [.ren [0, 3, 5] [0]] ⟨x123, rfl, h⟩
     rintro s ⟨x177, rfl, h⟩
     unfold F4_j2 at h
     refine nE K (tn 1) ?_
     exact arv [.ren [0, 3, 4, 5] [0]] ⟨x177, ByteArray.empty, rfl, h⟩
    rintro s ⟨x169, x170, rfl, h⟩
    unfold F4_j1 at h
    refine nE K (tn 3) ?_
    exact aro [.ren [0, 3, 4, 5] [0]] ⟨x169, x170, (wr (x125 + (1 : Int))), rfl, h⟩
   refine VW.exit ?_
   exact arv [.ren [3] [0]] ⟨x123, rfl, h⟩
 rintro s ⟨x92, rfl, h⟩
 unfold F4_j0 at h
 refine nR K (tn 2) ?_
 cases h; exact VW.ret (rt [some 0])
def sepR (r : Nat) : Bool := r == 32 || r == 10
theorem sep_pays (w : World) : Go.Proofs.PredAtRunes prog 10 #[] sepR w := by
 intro W x hx hb
 show Calls prog 10 #[.int .i32 (x : Int)] W _
 unfold sepR
 have e1 : ((x : Int) == 32) = (x == 32) := by rw [Bool.eq_iff_iff]; simp; omega
 have e2 : ((x : Int) == 10) = (x == 10) := by rw [Bool.eq_iff_iff]; simp; omega
 go_enter func10, Go.Proofs.Try.ntmps10
 by_cases h1 : x = 32 <;> by_cases h2 : x = 10
 all_goals (go_wp2_with fail)
 all_goals go_ret
 all_goals refine ⟨?_, 0, rfl⟩
 all_goals first | rfl | (rw [h1]; rfl) | (rw [h2]; rfl)
theorem words_w (s : ByteArray) (w : World) (h : s.size ≤ 4294967296) : Calls prog 5 #[.string s] w fun e w' => ∃ v, e = .returned v ∧ w'.ownsRow w.heap.size (Go.Proofs.Try.lays229_ren.t 9) 1 v (if s.size > 2000 then [] else Go.Lib.goFieldsP sepR s).length ((if s.size > 2000 then [] else Go.Lib.goFieldsP sepR s).map Value.string) ∧ Below w.heap.size w w' := by
 by_cases h : s.size > 2000
 ·rw [if_pos h]
  go_enter func5, Go.Proofs.Try.ntmps5
  go_wp2_with fail
  go_ret
  exact ⟨_, rfl, World.ownsRow_nil _ _ _ _, Below.refl _ _⟩
 rw [if_neg h]
 have cF := Go.Proofs.Try.strings_FieldsFunc_runes 10 #[] (enters_of func10 rfl (by decide)) sepR s w (by omega) (sep_pays w)
 generalize Go.Lib.goFieldsP sepR s = FS at cF ⊢
 go_enter func5, Go.Proofs.Try.ntmps5
 go_wp2_with (go_at_call 9; refine cF.mono ?_; rintro e w' ⟨A, rfl, hA, hown, hb⟩)
 go_ret
 exact ⟨_, rfl, hown, hb⟩
def F5 (N : Nat) (a0 : ByteArray) : Option (List ByteArray) :=
  gd (a0.size ≤ 4294967296) (some (if a0.size > 2000 then [] else Go.Lib.goFieldsP sepR a0))
theorem ok5 N a0 {r} (h : F5 N a0 = some r) : Con prog 5 [S a0] [.lf (.own .str r .dp)] := by
 obtain ⟨g, h⟩ := gd_some h
 cases h
 exact con_texts (enters_of func5 rfl (by decide)) (fun w => words_w a0 w g)
def F6_j0 (N : Nat) : Option (Bool) :=
  some true
def F6_l0_b (N : Nat) (a0 : (List ByteArray)) (a1 : (List ByteArray)) (nx25 : Int → Option (Bool)) (x20 : Int) : Option (Bool) :=
  cond (decide (x20 < (a0.length : Int))) (gd (InR x20 a0.length) (gd (InR x20 a1.length) (cond (!((a0.getD x20.toNat (Ty.dflt .str)).toList == (a1.getD x20.toNat (Ty.dflt .str)).toList)) (some false) (nx25 (IntKind.i64.wrap (x20 + (1 : Int))))))) (F6_j0 N)
def F6_l0 (N : Nat) (a0 : (List ByteArray)) (a1 : (List ByteArray)) := loopF (F6_l0_b N a0 a1) (fun _ => none)
theorem F6_l0_s N a0 a1 {k} (hk : 0 < k) x20 : F6_l0 N a0 a1 k x20 = F6_l0_b N a0 a1 (F6_l0 N a0 a1 (k - 1)) x20 := by cases k;cases hk;rfl
def F6 (N : Nat) (a0 : (List ByteArray)) (a1 : (List ByteArray)) : Option (Bool) :=
  cond ((a0.length : Int) != (a1.length : Int)) (some false) (F6_l0 N a0 a1 N (0 : Int))
theorem ok6 N a0 a1 {r} (h : F6 N a0 a1 = some r) : Con prog 6 [Vv (.sl .str) a0, Vv (.sl .str) a1] [.lf (.v .bool r)] := by
 refine ctr [.lf (.v .bool)] K func6 rfl fun w0 E0 ht => ?_
 unfold F6 at h
 show VW _ _ _ _ _ (retQ _ _ _ _) _
 refine nR K (tn 1) <| sq <| nR K (tn 5) ?_
 refine cnd h ?_ ?_<;>intro h
 ·refine nR K (tn 1) ?_
  cases h; exact VW.ret (rt [])
 refine VW.skip ?_
 refine VW.join (fun s => s = ⟨[], []⟩ ∧ F6_j0 N = some r) ?_ ?_
 ·refine nR K (tn 1) <| VW.block <| lop (fun k s => ∃ x20, s = ⟨[(0, Vv (.sl .str) a0), (1, Vv (.sl .str) a1), (5, I x20)], []⟩ ∧ F6_l0 N a0 a1 k x20 = some r) N [.ren [0, 1, 5] []] ⟨(0 : Int), rfl, h⟩ ?_
  rintro k25 s ⟨x20, rfl, h⟩
  cases k25 with
  | zero => cases show none = some r from h
  | succ k25 =>
   replace h : F6_l0_b N a0 a1 (F6_l0 N a0 a1 k25) x20 = some r := h
   unfold F6_l0_b at h
   refine sq <| nR K (tn 4) ?_
   refine cnd h ?_ ?_<;>intro h
   ·refine VW.skip <| sq <| VW.block <| sq ?_
    obtain⟨g28,h⟩:=gS h
    obtain⟨g29,h⟩:=gS h
    refine dr K [] [] [] [0, 1, 5, 25] [] (pu 2 (an g28 (pu 3 (an g29 (tn 2))))) trivial ?_
    refine cnd h ?_ ?_<;>intro h
    ·refine nR K (tn 1) ?_
     cases h; exact VW.ret (rt [])
    refine VW.skip <| nE K (tn 3) ?_
    exact aro [.ren [0, 1, 5] []] ⟨(wr (x20 + (1 : Int))), rfl, h⟩
   refine VW.exit ?_
   exact arv [.ren [] []] ⟨rfl, h⟩
 rintro s ⟨rfl, h⟩
 unfold F6_j0 at h
 refine nR K (tn 1) ?_
 cases h; exact VW.ret (rt [])
def F11_j0 (N : Nat) (x7 : ByteArray) : Option (ByteArray) :=
  gd ((⟨#[109]⟩ : ByteArray).size + x7.size ≤ 9223372036854775807) (some ((⟨#[109]⟩ : ByteArray) ++ x7))
def F11_l0_b (N : Nat) (nx14 : Int → ByteArray → Option (ByteArray)) (x11 : Int) (x12 : ByteArray) : Option (ByteArray) :=
  cond (decide (x11 > (0 : Int))) (gd ((strOfNums ([(IntKind.u8.wrap (IntKind.i64.wrap ((48 : Int) + (Int.tmod x11 (10 : Int)))))])).size + x12.size ≤ 9223372036854775807) (nx14 (IntKind.i64.wrap (Int.tdiv x11 (10 : Int))) ((strOfNums ([(IntKind.u8.wrap (IntKind.i64.wrap ((48 : Int) + (Int.tmod x11 (10 : Int)))))])) ++ x12))) (F11_j0 N x12)
def F11_l0 (N : Nat) := loopF (F11_l0_b N) (fun _ _ => none)
theorem F11_l0_s N {k} (hk : 0 < k) x11 x12 : F11_l0 N k x11 x12 = F11_l0_b N (F11_l0 N (k - 1)) x11 x12 := by cases k;cases hk;rfl
def F11 (N : Nat) (a0 : Int) : Option (ByteArray) :=
  cond (decide (a0 ≤ (0 : Int))) (some (⟨#[109, 48]⟩ : ByteArray)) (F11_l0 N N a0 ByteArray.empty)
theorem ok11 N a0 {r} (h : F11 N a0 = some r) : Con prog 11 [I a0] [.lf (.v .str r)] := by
 refine ctr [.lf (.v .str)] K func11 rfl fun w0 E0 ht => ?_
 unfold F11 at h
 show VW _ _ _ _ _ (retQ _ _ _ _) _
 refine nR K (tn 1) <| sq <| nR K (tn 2) ?_
 refine cnd h ?_ ?_<;>intro h
 ·refine nR K (tn 1) ?_
  cases h; exact VW.ret (rt [])
 refine VW.skip <| nR K (tn 1) ?_
 refine VW.join (fun s => ∃ x7, s = ⟨[(3, S x7)], []⟩ ∧ F11_j0 N x7 = some r) ?_ ?_
 ·refine VW.block <| lop (fun k s => ∃ x11 x12, s = ⟨[(0, I x11), (3, S x12)], []⟩ ∧ F11_l0 N k x11 x12 = some r) N [.ren [0, 3] []] ⟨a0, ByteArray.empty, rfl, h⟩ ?_
  rintro k14 s ⟨x11, x12, rfl, h⟩
  cases k14 with
  | zero => cases show none = some r from h
  | succ k14 =>
   replace h : F11_l0_b N (F11_l0 N k14) x11 x12 = some r := h
   unfold F11_l0_b at h
   refine sq <| nR K (tn 2) ?_
   refine cnd h ?_ ?_<;>intro h
   ·refine VW.skip <| VW.block ?_
    obtain⟨g15,h⟩:=gS h
    refine nR K (pu 1 (an (show ((10 : Int) ≠ 0) from by decide) (pu 5 (an g15 (tn 1))))) <| nE K (pu 1 (an (show ((10 : Int) ≠ 0) from by decide) (tn 1))) ?_
    exact aro [.ren [0, 3] []] ⟨(wr (Int.tdiv x11 (10 : Int))), ((strOfNums ([(IntKind.u8.wrap (wr ((48 : Int) + (Int.tmod x11 (10 : Int)))))])) ++ x12), rfl, h⟩
   refine VW.exit ?_
   exact arv [.ren [3] []] ⟨x12, rfl, h⟩
 rintro s ⟨x7, rfl, h⟩
 unfold F11_j0 at h
 obtain⟨g8,h⟩:=gS h
 refine nR K (pu 1 (an g8 (tn 1))) ?_
 cases h; exact VW.ret (rt [])
def F7_j0 (N : Nat) (x23 : Int) (x24 : (List ByteArray)) : Option ((List ByteArray) × Int) :=
  some (x24, x23)
def F7_l0_b (N : Nat) (nx41 : (List ByteArray) → Int → Int → Option ((List ByteArray) × Int)) (x32 : (List ByteArray)) (x33 : Int) (x34 : Int) : Option ((List ByteArray) × Int) :=
  cond (decide (x34 < (x32.length : Int))) (andO (F11 N x33) fun y45 => gd (InR x34 x32.length) (gd (x34.toNat < x32.length) (nx41 (x32.set x34.toNat y45) (IntKind.i64.wrap (x33 + (1 : Int))) (IntKind.i64.wrap (x34 + (1 : Int)))))) (F7_j0 N x33 x32)
def F7_l0 (N : Nat) := loopF (F7_l0_b N) (fun _ _ _ => none)
theorem F7_l0_s N {k} (hk : 0 < k) x32 x33 x34 : F7_l0 N k x32 x33 x34 = F7_l0_b N (F7_l0 N (k - 1)) x32 x33 x34 := by cases k;cases hk;rfl
def F7 (N : Nat) (a0 : (List ByteArray)) (a1 : Int) : Option ((List ByteArray) × Int) :=
  F7_l0 N N a0 a1 (0 : Int)
theorem ok7 N a0 a1 {r} (h : F7 N a0 a1 = some r) : ConM prog 7 [ar 0 .str a0 .dp] [hh 0, I a1] [.lf (.v (.int .i64) r.2)] [ar 0 .str r.1 .dp] := by
 refine ⟨enters_of func7 rfl (by decide), HM.intro [.lf (.v (.int .i64))] K func7 rfl (Nat.le_of_ble_eq_true rfl) (Nat.le_of_ble_eq_true rfl) fun w0 E0 ht => ?_⟩
 unfold F7 at h
 show VW _ _ _ _ _ (retM _ _ _ _ _) _
 refine nR K (tn 1) ?_
 refine VW.join (fun s => ∃ x23 x24, s = ⟨[(1, I x23), (65536, hh 0)], [ar 0 .str x24 .dp]⟩ ∧ F7_j0 N x23 x24 = some r) ?_ ?_
 ·refine nR K (tn 1) <| VW.block <| lop (fun k s => ∃ x32 x33 x34, s = ⟨[(0, hh 0), (1, I x33), (5, I x34), (65536, hh 0)], [ar 0 .str x32 .dp]⟩ ∧ F7_l0 N k x32 x33 x34 = some r) N [.ren [0, 1, 5, 65536] [0]] ⟨a0, a1, (0 : Int), rfl, h⟩ ?_
  rintro k41 s ⟨x32, x33, x34, rfl, h⟩
  cases k41 with
  | zero => cases show none = some r from h
  | succ k41 =>
   replace h : F7_l0_b N (F7_l0 N k41) x32 x33 x34 = some r := h
   unfold F7_l0_b at h
   refine sq <| nR K (tn 4) ?_
   refine cnd h ?_ ?_<;>intro h
   ·refine VW.skip <| sq <| VW.block <| sq <| VW.region <| nG K 3 (tn 3) ?_
    obtain⟨y45,hy,h⟩:=aS h
    refine clc false [.t (.int .i64)] [] (some 15) K (ok11 N _ hy) ?_
    obtain⟨g46,h⟩:=gS h
    obtain⟨g47,h⟩:=gS h
    refine nN K (an g46 (an g47 (tn 0))) <| nE K (tn 3) <| nE K (tn 3) ?_
    exact aro [.ren [0, 1, 5, 65536] [0]] ⟨(x32.set x34.toNat y45), (wr (x33 + (1 : Int))), (wr (x34 + (1 : Int))), rfl, h⟩
   refine VW.exit ?_
   exact arv [.ren [1, 65536] [0]] ⟨x33, x32, rfl, h⟩
 rintro s ⟨x23, x24, rfl, h⟩
 unfold F7_j0 at h
 refine nR K (tn 2) ?_
 replace h := Option.some.inj h
 subst h
 refine VW.ghl [.ren [4, 65536] [0]] (VW.ret ?_)
 exact ⟨[], by kernel_rfl, by kernel_rfl, by kernel_rfl⟩
def F8_j0 (N : Nat) (x28 : Int) : Option (Int) :=
  some x28
def F8_l0_b (N : Nat) (a0 : (List ByteArray)) (nx48 : Int → Int → Option (Int)) (x38 : Int) (x39 : Int) : Option (Int) :=
  cond (decide (x39 < (a0.length : Int))) (gd (InR x39 a0.length) (andO (F11 N x38) fun y56 => cond (!((a0.getD x39.toNat (Ty.dflt .str)).toList == y56.toList)) (some (-1 : Int)) (nx48 (IntKind.i64.wrap (x38 + (1 : Int))) (IntKind.i64.wrap (x39 + (1 : Int)))))) (F8_j0 N x38)
def F8_l0 (N : Nat) (a0 : (List ByteArray)) := loopF (F8_l0_b N a0) (fun _ _ => none)
theorem F8_l0_s N a0 {k} (hk : 0 < k) x38 x39 : F8_l0 N a0 k x38 x39 = F8_l0_b N a0 (F8_l0 N a0 (k - 1)) x38 x39 := by cases k;cases hk;rfl
def F8 (N : Nat) (a0 : (List ByteArray)) (a1 : Int) : Option (Int) :=
  F8_l0 N a0 N a1 (0 : Int)
theorem ok8 N a0 a1 {r} (h : F8 N a0 a1 = some r) : Con prog 8 [Vv (.sl .str) a0, I a1] [.lf (.v (.int .i64) r)] := by
 refine ctr [.lf (.v (.int .i64))] K func8 rfl fun w0 E0 ht => ?_
 unfold F8 at h
 show VW _ _ _ _ _ (retQ _ _ _ _) _
 refine nR K (tn 1) ?_
 refine VW.join (fun s => ∃ x28, s = ⟨[(1, I x28)], []⟩ ∧ F8_j0 N x28 = some r) ?_ ?_
 ·refine nR K (tn 1) <| VW.block <| lop (fun k s => ∃ x38 x39, s = ⟨[(0, Vv (.sl .str) a0), (1, I x38), (5, I x39)], []⟩ ∧ F8_l0 N a0 k x38 x39 = some r) N [.ren [0, 1, 5] []] ⟨a1, (0 : Int), rfl, h⟩ ?_
  rintro k48 s ⟨x38, x39, rfl, h⟩
  cases k48 with
  | zero => cases show none = some r from h
  | succ k48 =>
   replace h : F8_l0_b N a0 (F8_l0 N a0 k48) x38 x39 = some r := h
   unfold F8_l0_b at h
   refine sq <| nR K (tn 4) ?_
   refine cnd h ?_ ?_<;>intro h
   ·refine VW.skip <| sq <| VW.block <| sq <| sq ?_
    obtain⟨g55,h⟩:=gS h
    obtain⟨y56,hy56,h⟩:=aS h
    refine dr K [(5, .cl [] (some 17) [.lf (.v .str y56)])] [(5, 0)] [] [0, 1, 5, 18] [] (pu 2 (an g55 (tn 4))) ⟨qC false [.t (.int .i64)] [] [] (some 17) K (ok11 N _ hy56), trivial⟩ ?_
    refine cnd h ?_ ?_<;>intro h
    ·refine nR K (tn 1) ?_
     cases h; exact VW.ret (rt [])
    refine VW.skip <| nE K (tn 3) <| nE K (tn 3) ?_
    exact aro [.ren [0, 1, 5] []] ⟨(wr (x38 + (1 : Int))), (wr (x39 + (1 : Int))), rfl, h⟩
   refine VW.exit ?_
   exact arv [.ren [1] []] ⟨x38, rfl, h⟩
 rintro s ⟨x28, rfl, h⟩
 unfold F8_j0 at h
 refine nR K (tn 2) ?_
 cases h; exact VW.ret (rt [])
def F3 (N : Nat) (a0 : ByteArray) : Option (Bool) :=
  cond (decide ((a0.size : Int) > (1048576 : Int))) (some true) (andO (F4 N a0) fun y1 => andO (F5 N a0) fun y2 => andO (F6 N y2 y1) fun y4 => cond (!y4) (some false) (andO (F7 N y2 (1 : Int)) fun y5 => andO (F8 N y5.1 (1 : Int)) fun y6 => cond (decide (y6 < (0 : Int))) (some false) (cond (y6 != y5.2) (some false) (andO (F5 N a0) fun y7 => andO (F6 N y7 y1) fun y9 => cond (!y9) (some false) (andO (F8 N y5.1 (1 : Int)) fun y10 => cond (decide (y10 < (0 : Int))) (some false) (cond (y10 != y5.2) (some false) (some true)))))))
theorem ok3 N a0 {r} (h : F3 N a0 = some r) : Con prog 3 [S a0] [.lf (.v .bool r)] := by
 refine ctr [.lf (.v .bool)] K func3 rfl fun w0 E0 ht => ?_
 unfold F3 at h
 show VW _ _ _ _ _ (retQ _ _ _ _) _
 refine nR K (tn 1) <| sq <| nR K (tn 3) ?_
 refine cnd h ?_ ?_<;>intro h
 ·refine nR K (tn 1) ?_
  cases h; exact VW.ret (rt [])
 refine VW.skip <| sq <| VW.region <| nG K 1 (tn 1) ?_
 obtain⟨y1,hy,h⟩:=aS h
 refine clc false [.t .str] [] (some 12) K (ok4 N _ hy) <| nN K (tn 1) <| sq <| VW.region <| nG K 1 (tn 1) ?_
 obtain⟨y2,hy,h⟩:=aS h
 refine clc false [.t .str] [] (some 14) K (ok5 N _ hy) <| nN K (tn 1) <| sq <| sq <| VW.region <| nG K 2 (tn 2) ?_
 obtain⟨y4,hy,h⟩:=aS h
 refine clc true [.t (.sl .str), .t (.sl .str)] [] (some 17) K (ok6 N _ _ hy) <| nN K (tn 1) ?_
 refine cnd h ?_ ?_<;>intro h
 ·refine nR K (tn 1) ?_
  cases h; exact VW.ret (rt [])
 refine VW.skip <| nR K (tn 1) <| sq <| VW.region <| nG K 2 (tn 2) ?_
 obtain⟨y5,hy,h⟩:=aS h
 refine VO.callM [1] [.t (.sl .str), .t (.int .i64)] (d := some 21) (by kernel_rfl) (by kernel_rfl) (ok7 N _ _ hy) (by kernel_rfl) <| nN K (tn 1) <| nR K (tn 1) <| sq <| VW.region <| sGh K 2 [0, 3, 4, 5, 22, 23] [0, 1] [(0, S a0), (3, hh 0), (4, hh 1), (5, I y5.2), (22, hh 1), (23, I (1 : Int))] (tn 2) ?_
 obtain⟨y6,hy,h⟩:=aS h
 refine clc true [.t (.sl .str), .t (.int .i64)] [] (some 24) K (ok8 N _ _ hy) <| nN K (tn 1) <| sq <| nR K (tn 2) ?_
 refine cnd h ?_ ?_<;>intro h
 ·refine nR K (tn 1) ?_
  cases h; exact VW.ret (rt [])
 refine VW.skip <| sq <| nR K (tn 3) ?_
 refine cnd h ?_ ?_<;>intro h
 ·refine nR K (tn 1) ?_
  cases h; exact VW.ret (rt [])
 refine VW.skip <| sq <| VW.region <| nG K 1 (tn 1) ?_
 obtain⟨y7,hy,h⟩:=aS h
 refine clc false [.t .str] [] (some 31) K (ok5 N _ hy) <| nN K (tn 1) <| sq <| sq <| VW.region <| nG K 2 (tn 2) ?_
 obtain⟨y9,hy,h⟩:=aS h
 refine clc true [.t (.sl .str), .t (.sl .str)] [] (some 34) K (ok6 N _ _ hy) <| nN K (tn 1) ?_
 refine cnd h ?_ ?_<;>intro h
 ·refine nR K (tn 1) ?_
  cases h; exact VW.ret (rt [])
 refine VW.skip <| nR K (tn 1) <| sq <| VW.region <| nG K 2 (tn 2) ?_
 obtain⟨y10,hy,h⟩:=aS h
 refine clc true [.t (.sl .str), .t (.int .i64)] [] (some 38) K (ok8 N _ _ hy) <| nN K (tn 1) <| sq <| nR K (tn 2) ?_
 refine cnd h ?_ ?_<;>intro h
 ·refine nR K (tn 1) ?_
  cases h; exact VW.ret (rt [])
 refine VW.skip <| sq <| nR K (tn 3) ?_
 refine cnd h ?_ ?_<;>intro h
 ·refine sR K [2] [] ⟨[(2, B false)], []⟩ (tn 1) ?_
  cases h; exact VW.ret (rt [])
 refine VW.skip <| sR K [2] [] ⟨[(2, B true)], []⟩ (tn 1) ?_
 cases h; exact VW.ret (rt [])
end Go.Proofs.Ytpaagnjoniiemaa.Vc
